/- THE WALK OF acequialaw08.ChainParts. -/
import Derived.Test.YtpafambdccejnaaDoorChE
namespace Go.Proofs.YtpafambdccejnaaDoor
open Go.RowKit
set_option linter.unusedVariables false

theorem parE_cases (a b : List Lk) : parE a b = 0 ∨ parE a b = 80 := by
  unfold parE
  rcases chk_cases a with h1 | h1 <;> rcases chk_cases b with h2 | h2 <;> simp [h1, h2]
theorem apart_comm (a b : List Lk) : apart a b = apart b a := by
  unfold apart
  rw [decide_eq_decide]
  exact ⟨fun ⟨h1, h2, h3⟩ => ⟨h2, h1, fun e => h3 e.symm⟩, fun ⟨h1, h2, h3⟩ => ⟨h2, h1, fun e => h3 e.symm⟩⟩
theorem parE_zero {a b : List Lk} : parE a b = 0 ↔ chk a = 0 ∧ chk b = 0 ∧ apart a b = false := by
  unfold parE
  rcases chk_cases a with h1 | h1 <;> rcases chk_cases b with h2 | h2 <;> simp [h1, h2]
theorem parE_comm_zero (a b : List Lk) : parE a b = 0 ↔ parE b a = 0 := by
  rw [parE_zero, parE_zero, apart_comm]
  exact ⟨fun ⟨h1, h2, h3⟩ => ⟨h2, h1, h3⟩, fun ⟨h1, h2, h3⟩ => ⟨h2, h1, h3⟩⟩

/-- a list of links that came in -/
structure In (w : World) (p : Option Addr) (n c : Nat) (ls : List Lk) : Prop where
  len : n = ls.length
  wf : ∀ x ∈ ls, x.wf
  links : Links w p ls
  cap : n ≤ c
  max : c ≤ maxLen
theorem In.up {w w' : World} {p : Option Addr} {n c : Nat} {ls : List Lk} (h : In w p n c ls) (hu : Up w w') : In w' p n c ls := ⟨h.len, h.wf, h.links.up hu, h.cap, h.max⟩

set_option maxHeartbeats 2000000 in
theorem parts_few1 (p q : Option Addr) (n m c d : Nat) (ls ms : List Lk) (w : World) (ha : In w p n c ls) (htab : Tabs w) (hfe : fewB ls = false) :
    Calls Tryd.prog 7 #[.slice p n c, .slice q m d] w fun e w' => e = .returned (.bool true) ∧ Up w w' := by
  have HT := Lib.hid htab
  have FA := Lib.hid fun W (hu : Up w W) => few_calls p n c ls W ha.len ha.wf (ha.links.up hu) ha.cap ha.max
  rw [hfe] at FA
  clear htab ha hfe
  go_enter Tryd.func7, Tryd.ntmps7
  go_wp2_with fail
  refine (sane08_calls _ HT.out).mono ?_
  rintro e w2 ⟨rfl, u2⟩
  have U2 : Hid (Up w w2) := u2
  clear u2
  go_wp2_with fail
  refine (FA.out w2 U2.out).mono ?_
  rintro e w3 ⟨rfl, rfl⟩
  go_wp2_with fail
  go_ret
  exact ⟨rfl, U2.out⟩

set_option maxHeartbeats 2000000 in
theorem parts_few2 (p q : Option Addr) (n m c d : Nat) (ls ms : List Lk) (w : World) (ha : In w p n c ls) (hb : In w q m d ms) (htab : Tabs w) (hfe : fewB ls = true) (hfe2 : fewB ms = false) :
    Calls Tryd.prog 7 #[.slice p n c, .slice q m d] w fun e w' => e = .returned (.bool true) ∧ Up w w' := by
  have HT := Lib.hid htab
  have FA := Lib.hid fun W (hu : Up w W) => few_calls p n c ls W ha.len ha.wf (ha.links.up hu) ha.cap ha.max
  have FB := Lib.hid fun W (hu : Up w W) => few_calls q m d ms W hb.len hb.wf (hb.links.up hu) hb.cap hb.max
  rw [hfe] at FA
  rw [hfe2] at FB
  clear htab ha hb hfe hfe2
  go_enter Tryd.func7, Tryd.ntmps7
  go_wp2_with fail
  refine (sane08_calls _ HT.out).mono ?_
  rintro e w2 ⟨rfl, u2⟩
  have U2 : Hid (Up w w2) := u2
  clear u2
  go_wp2_with fail
  refine (FA.out w2 U2.out).mono ?_
  rintro e w3 ⟨rfl, rfl⟩
  go_wp2_with fail
  refine (FB.out w2 U2.out).mono ?_
  rintro e w4 ⟨rfl, rfl⟩
  go_wp2_with fail
  go_ret
  exact ⟨rfl, U2.out⟩

set_option maxRecDepth 100000 in
set_option maxHeartbeats 4000000 in
theorem parts_main (p q : Option Addr) (n m c d : Nat) (ls ms : List Lk) (w : World) (ha : In w p n c ls) (hb : In w q m d ms) (htab : Tabs w) (hfe : fewB ls = true) (hfe2 : fewB ms = true) :
    Calls Tryd.prog 7 #[.slice p n c, .slice q m d] w fun e w' => e = .returned (.bool true) ∧ Up w w' := by
  have HT := Lib.hid htab
  obtain ⟨hf, hf16⟩ := fewB_few ha.wf hfe
  obtain ⟨hg, hg16⟩ := fewB_few hb.wf hfe2
  have FA := Lib.hid fun W (hu : Up w W) => few_calls p n c ls W ha.len ha.wf (ha.links.up hu) ha.cap ha.max
  have FB := Lib.hid fun W (hu : Up w W) => few_calls q m d ms W hb.len hb.wf (hb.links.up hu) hb.cap hb.max
  rw [hfe] at FA
  rw [hfe2] at FB
  have P1 := Lib.hid fun W (hu : Up w W) => part_calls p q n m c d ls ms W ha.len hb.len hf hg (ha.links.up hu) (hb.links.up hu) (htab.up hu) ha.cap ha.max hb.cap hb.max
  have P2 := Lib.hid fun W (hu : Up w W) => part_calls q p m n d c ms ls W hb.len ha.len hg hf (hb.links.up hu) (ha.links.up hu) (htab.up hu) hb.cap hb.max ha.cap ha.max
  have hn16 : n ≤ 16 := by rw [ha.len]; exact hf16
  have hm16 : m ≤ 16 := by rw [hb.len]; exact hg16
  have SAM := Lib.hid fun k (hk : k ≤ n) (hk2 : k ≤ m) W (hu : Up w W) => same_calls p q k k c d (ls.take k) (ms.take k) W (by rw [List.length_take, ← ha.len]; omega) (by rw [List.length_take, ← hb.len]; omega) (hf.take k) (hg.take k) ((ha.links.up hu).take k) ((hb.links.up hu).take k)
  have hcc := ha.cap
  have hdd := hb.cap
  have HN := Lib.hid ha.len
  have HM := Lib.hid hb.len
  have LA := Lib.hid ha.links
  have LB := Lib.hid hb.links
  have HF := Lib.hid hf
  have HG := Lib.hid hg
  clear hf hg ha hb hfe hfe2 htab hf16 hg16
  rcases parE_cases ls ms with e0 | e0
  case inr =>
    have e1 : parE ms ls = 80 := by
      rcases parE_cases ms ls with h | h
      · rw [(parE_comm_zero ls ms).2 h] at e0; omega
      · exact h
    have i1 : parI ls ms = 0 := by unfold parI; rw [e0]; rfl
    have b1 : parB ls ms = false := by unfold parB; rw [e0]; rfl
    have i2 : parI ms ls = 0 := by unfold parI; rw [e1]; rfl
    have b2 : parB ms ls = false := by unfold parB; rw [e1]; rfl
    rw [e0, i1, b1] at P1
    rw [e1, i2, b2] at P2
    clear e0 e1 i1 b1 i2 b2
    go_enter Tryd.func7, Tryd.ntmps7
    go_wp2_with fail
    refine (sane08_calls _ HT.out).mono ?_
    rintro e w2 ⟨rfl, u2⟩
    have U2 : Hid (Up w w2) := u2
    clear u2
    go_wp2_with fail
    refine (FA.out w2 U2.out).mono ?_
    rintro e w3 ⟨rfl, rfl⟩
    go_wp2_with fail
    refine (FB.out w2 U2.out).mono ?_
    rintro e w3 ⟨rfl, rfl⟩
    go_wp2_with fail
    refine (P1.out w2 U2.out).mono ?_
    rintro e w4 ⟨rfl, u4⟩
    have U4 : Hid (Up w w4) := Up.trans U2.out u4
    clear u4
    go_wp2_with fail
    refine (P2.out w4 U4.out).mono ?_
    rintro e w5 ⟨rfl, u5⟩
    have U5 : Hid (Up w w5) := Up.trans U4.out u5
    clear u5
    go_wp2_with fail
    go_ret
    exact ⟨rfl, U5.out⟩
  have e1 := (parE_comm_zero ls ms).1 e0
  have i1 : parI ls ms = dAt (diff ls ms) := by unfold parI; rw [if_pos e0]
  have b1 : parB ls ms = (diff ls ms).isSome := by unfold parB; rw [if_pos e0]
  have i2 : parI ms ls = dAt (diff ls ms) := by unfold parI; rw [if_pos e1, diff_comm]
  have b2 : parB ms ls = (diff ls ms).isSome := by unfold parB; rw [if_pos e1, diff_comm]
  rw [e0, i1, b1] at P1
  rw [e1, i2, b2] at P2
  clear e0 e1 i1 b1 i2 b2
  cases hdf : diff ls ms with
  | none =>
    have hq := diff_eq ls ms hdf
    rw [hdf] at P1 P2
    rw [← HN.out, ← HM.out] at hq
    have SM := Lib.hid fun W (hu : Up w W) => SAM.out (min n m) (by omega) (by omega) W hu
    rw [hq, decide_eq_true rfl] at SM
    simp only [dAt, Option.isSome_none] at P1 P2
    clear hq hdf SAM
    by_cases hmn : m < n
    · rw [show min n m = m by omega] at SM
      have hx1 : (m : Int) ≤ c := by omega
      have hx2 : (m : Int) ≤ d := by omega
      have hx0 : (0 : Int) ≤ m := by omega
      go_enter Tryd.func7, Tryd.ntmps7
      go_wp2_with fail
      refine (sane08_calls _ HT.out).mono ?_
      rintro e w2 ⟨rfl, u2⟩
      have U2 : Hid (Up w w2) := u2
      clear u2
      go_wp2_with fail
      refine (FA.out w2 U2.out).mono ?_
      rintro e w3 ⟨rfl, rfl⟩
      go_wp2_with fail
      refine (FB.out w2 U2.out).mono ?_
      rintro e w3 ⟨rfl, rfl⟩
      go_wp2_with fail
      refine (P1.out w2 U2.out).mono ?_
      rintro e w4 ⟨rfl, u4⟩
      have U4 : Hid (Up w w4) := Up.trans U2.out u4
      clear u4
      go_wp2_with fail
      refine (P2.out w4 U4.out).mono ?_
      rintro e w5 ⟨rfl, u5⟩
      have U5 : Hid (Up w w5) := Up.trans U4.out u5
      clear u5
      go_wp2_with fail
      haveI := UpW.some_ w5.drew
      refine wp_region_up_k (by kernel_rfl) (by kernel_rfl) ?_
      intro R hR
      repeat (first | go_big_quiet_step (fail) | quiet_step ((go_at_call 14; with_reducible exact Calls.quiet_up (SM.out _ (Up.trans U5.out (Up.trans (Up.refl w5).drew (UpW.up _)))))))
      refine wpQuiet_nil (hR _ ?_)
      clear hR R
      rintro w6 ⟨z, hz⟩
      have U6 : Hid (Up w w6) := by show Up w w6; rw [hz]; exact Up.trans U5.out (Up.trans (Up.refl w5).drew z.up)
      clear hz
      go_wp2
      go_ret
      exact ⟨rfl, U6.out⟩
    · rw [show min n m = n by omega] at SM
      have hx1 : (n : Int) ≤ c := by omega
      have hx2 : (n : Int) ≤ d := by omega
      have hx0 : (0 : Int) ≤ n := by omega
      go_enter Tryd.func7, Tryd.ntmps7
      go_wp2_with fail
      refine (sane08_calls _ HT.out).mono ?_
      rintro e w2 ⟨rfl, u2⟩
      have U2 : Hid (Up w w2) := u2
      clear u2
      go_wp2_with fail
      refine (FA.out w2 U2.out).mono ?_
      rintro e w3 ⟨rfl, rfl⟩
      go_wp2_with fail
      refine (FB.out w2 U2.out).mono ?_
      rintro e w3 ⟨rfl, rfl⟩
      go_wp2_with fail
      refine (P1.out w2 U2.out).mono ?_
      rintro e w4 ⟨rfl, u4⟩
      have U4 : Hid (Up w w4) := Up.trans U2.out u4
      clear u4
      go_wp2_with fail
      refine (P2.out w4 U4.out).mono ?_
      rintro e w5 ⟨rfl, u5⟩
      have U5 : Hid (Up w w5) := Up.trans U4.out u5
      clear u5
      go_wp2_with fail
      haveI := UpW.some_ w5.drew
      refine wp_region_up_k (by kernel_rfl) (by kernel_rfl) ?_
      intro R hR
      repeat (first | go_big_quiet_step (fail) | quiet_step ((go_at_call 14; with_reducible exact Calls.quiet_up (SM.out _ (Up.trans U5.out (Up.trans (Up.refl w5).drew (UpW.up _)))))))
      refine wpQuiet_nil (hR _ ?_)
      clear hR R
      rintro w6 ⟨z, hz⟩
      have U6 : Hid (Up w w6) := by show Up w w6; rw [hz]; exact Up.trans U5.out (Up.trans (Up.refl w5).drew z.up)
      clear hz
      go_wp2
      go_ret
      exact ⟨rfl, U6.out⟩
  | some i =>
    obtain ⟨hil, him, htk, hne⟩ := diff_spec ls ms i hdf
    rw [hdf] at P1 P2
    have hin : i < n := by rw [HN.out]; exact hil
    have him2 : i < m := by rw [HM.out]; exact him
    have SM := Lib.hid fun W (hu : Up w W) => SAM.out i (by omega) (by omega) W hu
    rw [htk, decide_eq_true rfl] at SM
    simp only [dAt, Option.isSome_some] at P1 P2
    obtain ⟨D, hD⟩ := LA.out.fn
    obtain ⟨E, hE⟩ := LB.out.fn
    have S1 := Lib.hid (DFn.size HF.out hD i hil)
    have S2 := Lib.hid (DFn.size HG.out hE i him)
    obtain ⟨b, o, rfl, hdd'⟩ := hD (by rintro rfl; simp at hil)
    obtain ⟨b2, o2, rfl, hee⟩ := hE (by rintro rfl; simp at him)
    obtain ⟨hlv, hrg⟩ := hdd' i hil
    obtain ⟨hlv2, hrg2⟩ := hee i him
    have hx := HF.out.2 _ (List.getElem_mem hil)
    have hy := HG.out.2 _ (List.getElem_mem him)
    have SL := Lib.hid fun (W : World) (hu : Up w W) => sameLink_calls (D i) (E i) ls[i] ms[i] W (hlv.up hu) (hlv2.up hu) hx hy
    rw [decide_eq_false hne] at SL
    have G1 := Lib.hid fun (W : World) (hu : Up w W) => rangeAt_up hrg hu
    have G2 := Lib.hid fun (W : World) (hu : Up w W) => rangeAt_up hrg2 hu
    have hx1 : (i : Int) ≤ c := by omega
    have hx2 : (i : Int) ≤ d := by omega
    have hx0 : (0 : Int) ≤ i := by omega
    have hx3 : (i : Int) < n := by omega
    have hx4 : (i : Int) < m := by omega
    have dd0 : decide ((0 : Int) ≤ i) = true := by simp
    have dd1 : decide ((i : Int) < n) = true := by simpa using hin
    have dd2 : decide ((i : Int) < m) = true := by simpa using him2
    clear hdf SAM htk hne hD hE hdd' hee hlv hlv2 hrg hrg2 hx hy
    by_cases hmn : m < n
    · go_enter Tryd.func7, Tryd.ntmps7
      go_wp2_with fail
      refine (sane08_calls _ HT.out).mono ?_
      rintro e w2 ⟨rfl, u2⟩
      have U2 : Hid (Up w w2) := u2
      clear u2
      go_wp2_with fail
      refine (FA.out w2 U2.out).mono ?_
      rintro e w3 ⟨rfl, rfl⟩
      go_wp2_with fail
      refine (FB.out w2 U2.out).mono ?_
      rintro e w3 ⟨rfl, rfl⟩
      go_wp2_with fail
      refine (P1.out w2 U2.out).mono ?_
      rintro e w4 ⟨rfl, u4⟩
      have U4 : Hid (Up w w4) := Up.trans U2.out u4
      clear u4
      go_wp2_with fail
      refine (P2.out w4 U4.out).mono ?_
      rintro e w5 ⟨rfl, u5⟩
      have U5 : Hid (Up w w5) := Up.trans U4.out u5
      clear u5
      go_wp2_with fail
      haveI := UpW.some_ w5.drew
      refine wp_region_up_k (by kernel_rfl) (by kernel_rfl) ?_
      intro R hR
      repeat (first | ((with_reducible show wpQuiet _ _ _ _ (Oper.mk _ (Op.load _ (Operand.tmp 97)) _ _ _ _ :: _) _); refine wpQuiet_load_arr (by rfl) 37 (.tmp 97) rfl b (o + i * 35) rfl (D i) _ (fun w' hw' => by (obtain ⟨z, rfl⟩ := hw'; exact G1.out _ (Up.trans U5.out (Up.trans (Up.refl w5).drew z.up)))) rfl rfl (by rw [S1.out]; rfl) ?_) | ((with_reducible show wpQuiet _ _ _ _ (Oper.mk _ (Op.load _ (Operand.tmp 101)) _ _ _ _ :: _) _); refine wpQuiet_load_arr (by rfl) 37 (.tmp 101) rfl b2 (o2 + i * 35) rfl (E i) _ (fun w' hw' => by (obtain ⟨z, rfl⟩ := hw'; exact G2.out _ (Up.trans U5.out (Up.trans (Up.refl w5).drew z.up)))) rfl rfl (by rw [S2.out]; rfl) ?_) | go_big_quiet_step (fail) | quiet_step ((first | (go_at_call 14; with_reducible exact Calls.quiet_up (SM.out _ (Up.trans U5.out (Up.trans (Up.refl w5).drew (UpW.up _))))) | (go_at_call 18; with_reducible exact Calls.quiet_up (SL.out _ (Up.trans U5.out (Up.trans (Up.refl w5).drew (UpW.up _))))))))
      refine wpQuiet_nil (hR _ ?_)
      clear hR R
      rintro w6 ⟨z, hz⟩
      have U6 : Hid (Up w w6) := by show Up w w6; rw [hz]; exact Up.trans U5.out (Up.trans (Up.refl w5).drew z.up)
      clear hz
      go_wp2
      go_ret
      exact ⟨rfl, U6.out⟩
    · go_enter Tryd.func7, Tryd.ntmps7
      go_wp2_with fail
      refine (sane08_calls _ HT.out).mono ?_
      rintro e w2 ⟨rfl, u2⟩
      have U2 : Hid (Up w w2) := u2
      clear u2
      go_wp2_with fail
      refine (FA.out w2 U2.out).mono ?_
      rintro e w3 ⟨rfl, rfl⟩
      go_wp2_with fail
      refine (FB.out w2 U2.out).mono ?_
      rintro e w3 ⟨rfl, rfl⟩
      go_wp2_with fail
      refine (P1.out w2 U2.out).mono ?_
      rintro e w4 ⟨rfl, u4⟩
      have U4 : Hid (Up w w4) := Up.trans U2.out u4
      clear u4
      go_wp2_with fail
      refine (P2.out w4 U4.out).mono ?_
      rintro e w5 ⟨rfl, u5⟩
      have U5 : Hid (Up w w5) := Up.trans U4.out u5
      clear u5
      go_wp2_with fail
      haveI := UpW.some_ w5.drew
      refine wp_region_up_k (by kernel_rfl) (by kernel_rfl) ?_
      intro R hR
      repeat (first | ((with_reducible show wpQuiet _ _ _ _ (Oper.mk _ (Op.load _ (Operand.tmp 97)) _ _ _ _ :: _) _); refine wpQuiet_load_arr (by rfl) 37 (.tmp 97) rfl b (o + i * 35) rfl (D i) _ (fun w' hw' => by (obtain ⟨z, rfl⟩ := hw'; exact G1.out _ (Up.trans U5.out (Up.trans (Up.refl w5).drew z.up)))) rfl rfl (by rw [S1.out]; rfl) ?_) | ((with_reducible show wpQuiet _ _ _ _ (Oper.mk _ (Op.load _ (Operand.tmp 101)) _ _ _ _ :: _) _); refine wpQuiet_load_arr (by rfl) 37 (.tmp 101) rfl b2 (o2 + i * 35) rfl (E i) _ (fun w' hw' => by (obtain ⟨z, rfl⟩ := hw'; exact G2.out _ (Up.trans U5.out (Up.trans (Up.refl w5).drew z.up)))) rfl rfl (by rw [S2.out]; rfl) ?_) | go_big_quiet_step (fail) | quiet_step ((first | (go_at_call 14; with_reducible exact Calls.quiet_up (SM.out _ (Up.trans U5.out (Up.trans (Up.refl w5).drew (UpW.up _))))) | (go_at_call 18; with_reducible exact Calls.quiet_up (SL.out _ (Up.trans U5.out (Up.trans (Up.refl w5).drew (UpW.up _))))))))
      refine wpQuiet_nil (hR _ ?_)
      clear hR R
      rintro w6 ⟨z, hz⟩
      have U6 : Hid (Up w w6) := by show Up w w6; rw [hz]; exact Up.trans U5.out (Up.trans (Up.refl w5).drew z.up)
      clear hz
      go_wp2
      go_ret
      exact ⟨rfl, U6.out⟩

theorem lawParts_calls (p q : Option Addr) (n m c d : Nat) (ls ms : List Lk) (w : World) (ha : In w p n c ls) (hb : In w q m d ms) (h0 : Tab0 w) (h1 : Tab w) :
    Calls Tryd.prog 7 #[.slice p n c, .slice q m d] w fun e w' => e = .returned (.bool true) ∧ Up w w' := by
  cases hfe : fewB ls with
  | false => exact parts_few1 p q n m c d ls ms w ha ⟨h0, h1⟩ hfe
  | true =>
    cases hfe2 : fewB ms with
    | false => exact parts_few2 p q n m c d ls ms w ha hb ⟨h0, h1⟩ hfe hfe2
    | true => exact parts_main p q n m c d ls ms w ha hb ⟨h0, h1⟩ hfe hfe2

end Go.Proofs.YtpafambdccejnaaDoor
