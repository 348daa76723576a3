/- THE WALK OF acequialaw08.ChainEqual. -/
import Derived.Test.YtpafambdccejnaaDoorL8Plain
namespace Go.Proofs.YtpafambdccejnaaDoor
open Go.RowKit
set_option linter.unusedVariables false

set_option maxHeartbeats 2000000 in
theorem equal_few1 (p q : Option Addr) (n m c d : Nat) (ls ms : List Lk) (w : World) (ha : In w p n c ls) (htab : Tabs w) (hfe : fewB ls = false) :
    Calls Tryd.prog 5 #[.slice p n c, .slice q m d] w fun e w' => e = .returned (.bool true) ∧ Up w w' := by
  have HT := Lib.hid htab
  have FA := Lib.hid fun W (hu : Up w W) => few_calls p n c ls W ha.len ha.wf (ha.links.up hu) ha.cap ha.max
  rw [hfe] at FA
  clear htab ha hfe
  go_enter Tryd.func5, Tryd.ntmps5
  go_wp2_with fail
  refine (sane08_calls _ HT.out).mono ?_
  rintro e w2 ⟨rfl, u2⟩
  have U2 : Hid (Up w w2) := u2
  clear u2
  go_wp2_with fail
  refine (FA.out w2 U2.out).mono ?_
  rintro e w3 ⟨rfl, rfl⟩
  go_wp2_with fail
  go_ret
  exact ⟨rfl, U2.out⟩

set_option maxHeartbeats 2000000 in
theorem equal_few2 (p q : Option Addr) (n m c d : Nat) (ls ms : List Lk) (w : World) (ha : In w p n c ls) (hb : In w q m d ms) (htab : Tabs w) (hfe : fewB ls = true) (hfe2 : fewB ms = false) :
    Calls Tryd.prog 5 #[.slice p n c, .slice q m d] w fun e w' => e = .returned (.bool true) ∧ Up w w' := by
  have HT := Lib.hid htab
  have FA := Lib.hid fun W (hu : Up w W) => few_calls p n c ls W ha.len ha.wf (ha.links.up hu) ha.cap ha.max
  have FB := Lib.hid fun W (hu : Up w W) => few_calls q m d ms W hb.len hb.wf (hb.links.up hu) hb.cap hb.max
  rw [hfe] at FA
  rw [hfe2] at FB
  clear htab ha hb hfe hfe2
  go_enter Tryd.func5, Tryd.ntmps5
  go_wp2_with fail
  refine (sane08_calls _ HT.out).mono ?_
  rintro e w2 ⟨rfl, u2⟩
  have U2 : Hid (Up w w2) := u2
  clear u2
  go_wp2_with fail
  refine (FA.out w2 U2.out).mono ?_
  rintro e w3 ⟨rfl, rfl⟩
  go_wp2_with fail
  refine (FB.out w2 U2.out).mono ?_
  rintro e w3 ⟨rfl, rfl⟩
  go_wp2_with fail
  go_ret
  exact ⟨rfl, U2.out⟩

set_option maxHeartbeats 4000000 in
theorem equal_early (p q : Option Addr) (n m c d : Nat) (ls ms : List Lk) (w : World) (ha : In w p n c ls) (hb : In w q m d ms) (htab : Tabs w) (hfe : fewB ls = true) (hfe2 : fewB ms = true) (hno : ¬ (chk ls = 0 ∧ chk ms = 0 ∧ n = m ∧ hd ls = hd ms)) :
    Calls Tryd.prog 5 #[.slice p n c, .slice q m d] w fun e w' => e = .returned (.bool true) ∧ Up w w' := by
  have HT := Lib.hid htab
  obtain ⟨hf, hf16⟩ := fewB_few ha.wf hfe
  obtain ⟨hg, hg16⟩ := fewB_few hb.wf hfe2
  have FA := Lib.hid fun W (hu : Up w W) => few_calls p n c ls W ha.len ha.wf (ha.links.up hu) ha.cap ha.max
  have FB := Lib.hid fun W (hu : Up w W) => few_calls q m d ms W hb.len hb.wf (hb.links.up hu) hb.cap hb.max
  rw [hfe] at FA
  rw [hfe2] at FB
  have C1 := Lib.hid fun W (hu : Up w W) => chCheck_calls p n c ls W ha.len hf (ha.links.up hu) (htab.up hu) ha.cap ha.max
  have C2 := Lib.hid fun W (hu : Up w W) => chCheck_calls q m d ms W hb.len hg (hb.links.up hu) (htab.up hu) hb.cap hb.max
  have H1 := Lib.hid fun W (hu : Up w W) => head_calls p n c ls W ha.len hf (ha.links.up hu) (htab.up hu)
  have H2 := Lib.hid fun W (hu : Up w W) => head_calls q m d ms W hb.len hg (hb.links.up hu) (htab.up hu)
  have l1 := hd_len ls
  have l2 := hd_len ms
  have hq : ∀ w : World, (Op.equalIn 10000 35 (.agg (u8s (hd ls)).toArray) (.agg (u8s (hd ms)).toArray)).run Tryd.prog w = .ok (decide (hd ls = hd ms)) w := fun w => run_equalIn_digest 9998 _ _ w l1 l2
  clear l1 l2
  rcases chk_cases ls with k1 | k1
  case inr =>
    rw [k1] at C1
    clear hno k1 hq
    clear hf hg ha hb hfe hfe2 htab hf16 hg16
    go_enter Tryd.func5, Tryd.ntmps5
    go_wp2_with fail
    refine (sane08_calls _ HT.out).mono ?_
    rintro e w2 ⟨rfl, u2⟩
    have U2 : Hid (Up w w2) := u2
    clear u2
    go_wp2_with fail
    refine (FA.out w2 U2.out).mono ?_
    rintro e w3 ⟨rfl, rfl⟩
    go_wp2_with fail
    refine (FB.out w2 U2.out).mono ?_
    rintro e w3 ⟨rfl, rfl⟩
    go_wp2_with fail
    refine (C1.out w2 U2.out).mono ?_
    rintro e w4 ⟨rfl, u4⟩
    have U4 : Hid (Up w w4) := Up.trans U2.out u4
    clear u4
    go_wp2_with fail
    go_ret
    exact ⟨rfl, U4.out⟩
  rw [k1] at C1
  rcases chk_cases ms with k2 | k2
  case inr =>
    rw [k2] at C2
    clear hno k1 k2 hq
    clear hf hg ha hb hfe hfe2 htab hf16 hg16
    go_enter Tryd.func5, Tryd.ntmps5
    go_wp2_with fail
    refine (sane08_calls _ HT.out).mono ?_
    rintro e w2 ⟨rfl, u2⟩
    have U2 : Hid (Up w w2) := u2
    clear u2
    go_wp2_with fail
    refine (FA.out w2 U2.out).mono ?_
    rintro e w3 ⟨rfl, rfl⟩
    go_wp2_with fail
    refine (FB.out w2 U2.out).mono ?_
    rintro e w3 ⟨rfl, rfl⟩
    go_wp2_with fail
    refine (C1.out w2 U2.out).mono ?_
    rintro e w4 ⟨rfl, u4⟩
    have U4 : Hid (Up w w4) := Up.trans U2.out u4
    clear u4
    go_wp2_with fail
    refine (C2.out w4 U4.out).mono ?_
    rintro e w5 ⟨rfl, u5⟩
    have U5 : Hid (Up w w5) := Up.trans U4.out u5
    clear u5
    go_wp2_with fail
    go_ret
    exact ⟨rfl, U5.out⟩
  rw [k2] at C2
  by_cases hnm : n = m
  case neg =>
    have d1 : ((n : Int) == (m : Int)) = false := by simp; omega
    have d2 : ((n : Int) != (m : Int)) = true := by simp; omega
    clear hno k1 k2 hq hnm
    clear hf hg ha hb hfe hfe2 htab hf16 hg16
    go_enter Tryd.func5, Tryd.ntmps5
    go_wp2_with fail
    refine (sane08_calls _ HT.out).mono ?_
    rintro e w2 ⟨rfl, u2⟩
    have U2 : Hid (Up w w2) := u2
    clear u2
    go_wp2_with fail
    refine (FA.out w2 U2.out).mono ?_
    rintro e w3 ⟨rfl, rfl⟩
    go_wp2_with fail
    refine (FB.out w2 U2.out).mono ?_
    rintro e w3 ⟨rfl, rfl⟩
    go_wp2_with fail
    refine (C1.out w2 U2.out).mono ?_
    rintro e w4 ⟨rfl, u4⟩
    have U4 : Hid (Up w w4) := Up.trans U2.out u4
    clear u4
    go_wp2_with fail
    refine (C2.out w4 U4.out).mono ?_
    rintro e w5 ⟨rfl, u5⟩
    have U5 : Hid (Up w w5) := Up.trans U4.out u5
    clear u5
    go_wp2_with fail
    go_ret
    exact ⟨rfl, U5.out⟩
  subst hnm
  have hdf : hd ls ≠ hd ms := fun e => hno ⟨k1, k2, rfl, e⟩
  have d1 : ((n : Int) == (n : Int)) = true := by simp
  have d2 : ((n : Int) != (n : Int)) = false := by simp
  rw [decide_eq_false hdf] at hq
  clear hno k1 k2 hdf
  clear hf hg ha hb hfe hfe2 htab hf16 hg16
  go_enter Tryd.func5, Tryd.ntmps5
  go_wp2_with fail
  refine (sane08_calls _ HT.out).mono ?_
  rintro e w2 ⟨rfl, u2⟩
  have U2 : Hid (Up w w2) := u2
  clear u2
  go_wp2_with fail
  refine (FA.out w2 U2.out).mono ?_
  rintro e w3 ⟨rfl, rfl⟩
  go_wp2_with fail
  refine (FB.out w2 U2.out).mono ?_
  rintro e w3 ⟨rfl, rfl⟩
  go_wp2_with fail
  refine (C1.out w2 U2.out).mono ?_
  rintro e w4 ⟨rfl, u4⟩
  have U4 : Hid (Up w w4) := Up.trans U2.out u4
  clear u4
  go_wp2_with fail
  refine (C2.out w4 U4.out).mono ?_
  rintro e w5 ⟨rfl, u5⟩
  have U5 : Hid (Up w w5) := Up.trans U4.out u5
  clear u5
  go_wp2_with fail
  refine (H1.out w5 U5.out).mono ?_
  rintro e w6 ⟨rfl, u6⟩
  have U6 : Hid (Up w w6) := Up.trans U5.out u6
  clear u6
  go_wp2_with fail
  refine (H2.out w6 U6.out).mono ?_
  rintro e w7 ⟨rfl, u7⟩
  have U7 : Hid (Up w w7) := Up.trans U6.out u7
  clear u7
  go_wp2_with fail
  go_ret
  exact ⟨rfl, U7.out⟩

set_option maxRecDepth 100000 in
set_option maxHeartbeats 4000000 in
theorem equal_main (p q : Option Addr) (n c d : Nat) (ls ms : List Lk) (w : World) (ha : In w p n c ls) (hb : In w q n d ms) (htab : Tabs w) (hfe : fewB ls = true) (hfe2 : fewB ms = true) (k1 : chk ls = 0) (k2 : chk ms = 0) (hh : hd ls = hd ms) :
    Calls Tryd.prog 5 #[.slice p n c, .slice q n d] w fun e w' => e = .returned (.bool true) ∧ Up w w' := by
  have HT := Lib.hid htab
  obtain ⟨hf, hf16⟩ := fewB_few ha.wf hfe
  obtain ⟨hg, hg16⟩ := fewB_few hb.wf hfe2
  have FA := Lib.hid fun W (hu : Up w W) => few_calls p n c ls W ha.len ha.wf (ha.links.up hu) ha.cap ha.max
  have FB := Lib.hid fun W (hu : Up w W) => few_calls q n d ms W hb.len hb.wf (hb.links.up hu) hb.cap hb.max
  rw [hfe] at FA
  rw [hfe2] at FB
  have C1 := Lib.hid fun W (hu : Up w W) => chCheck_calls p n c ls W ha.len hf (ha.links.up hu) (htab.up hu) ha.cap ha.max
  have C2 := Lib.hid fun W (hu : Up w W) => chCheck_calls q n d ms W hb.len hg (hb.links.up hu) (htab.up hu) hb.cap hb.max
  have H1 := Lib.hid fun W (hu : Up w W) => head_calls p n c ls W ha.len hf (ha.links.up hu) (htab.up hu)
  have H2 := Lib.hid fun W (hu : Up w W) => head_calls q n d ms W hb.len hg (hb.links.up hu) (htab.up hu)
  have SM := Lib.hid fun W (hu : Up w W) => same_calls p q n n c d ls ms W ha.len hb.len hf hg (ha.links.up hu) (hb.links.up hu)
  have CL := Lib.hid fun i (hi : i ≤ n) W (hu : Up w W) => clash_calls p q i i c d (ls.take i) (ms.take i) W (by rw [List.length_take, ← ha.len]; omega) (by rw [List.length_take, ← hb.len]; omega) (hf.take i) (hg.take i) ((ha.links.up hu).take i) ((hb.links.up hu).take i) (htab.up hu)
  have l1 := hd_len ls
  rw [← hh] at H2
  have hq : ∀ w : World, (Op.equalIn 10000 35 (.agg (u8s (hd ls)).toArray) (.agg (u8s (hd ls)).toArray)).run Tryd.prog w = .ok true w := fun w => by rw [run_equalIn_digest 9998 _ _ w l1 l1]; simp
  have HL : Hid (ls ≠ ms → ∃ i, i < n ∧ clashB (ls.take (i + 1)) (ms.take (i + 1)) = true) := fun hne => by
    have := equal_law hf hg k1 k2 (by rw [← ha.len, ← hb.len]) hh hne
    rw [← ha.len] at this; exact this
  rw [k1] at C1
  rw [k2] at C2
  have hn16 : n ≤ 16 := by rw [ha.len]; exact hf16
  have hcc := ha.cap
  have hdd := hb.cap
  have d1 : ((n : Int) == (n : Int)) = true := by simp
  have d2 : ((n : Int) != (n : Int)) = false := by simp
  clear l1 hh k1 k2
  clear hf hg ha hb hfe hfe2 htab hf16 hg16
  by_cases hsm : ls = ms
  · rw [decide_eq_true hsm] at SM
    clear hsm HL CL
    go_enter Tryd.func5, Tryd.ntmps5
    go_wp2_with fail
    refine (sane08_calls _ HT.out).mono ?_
    rintro e w2 ⟨rfl, u2⟩
    have U2 : Hid (Up w w2) := u2
    clear u2
    go_wp2_with fail
    refine (FA.out w2 U2.out).mono ?_
    rintro e w3 ⟨rfl, rfl⟩
    go_wp2_with fail
    refine (FB.out w2 U2.out).mono ?_
    rintro e w3 ⟨rfl, rfl⟩
    go_wp2_with fail
    refine (C1.out w2 U2.out).mono ?_
    rintro e w4 ⟨rfl, u4⟩
    have U4 : Hid (Up w w4) := Up.trans U2.out u4
    clear u4
    go_wp2_with fail
    refine (C2.out w4 U4.out).mono ?_
    rintro e w5 ⟨rfl, u5⟩
    have U5 : Hid (Up w w5) := Up.trans U4.out u5
    clear u5
    go_wp2_with fail
    refine (H1.out w5 U5.out).mono ?_
    rintro e w6 ⟨rfl, u6⟩
    have U6 : Hid (Up w w6) := Up.trans U5.out u6
    clear u6
    go_wp2_with fail
    refine (H2.out w6 U6.out).mono ?_
    rintro e w7 ⟨rfl, u7⟩
    have U7 : Hid (Up w w7) := Up.trans U6.out u7
    clear u7
    go_wp2_with fail
    refine (SM.out w7 U7.out).mono ?_
    rintro e w8 ⟨rfl, u8⟩
    have U8 : Hid (Up w w8) := Up.trans U7.out u8
    clear u8
    go_wp2_with fail
    go_ret
    exact ⟨rfl, U8.out⟩
  · rw [decide_eq_false hsm] at SM
    obtain ⟨i0, hi0, hcl⟩ := HL.out hsm
    have HCL := Lib.hid hcl
    clear hsm HL hcl
    go_enter Tryd.func5, Tryd.ntmps5
    go_wp2_with fail
    refine (sane08_calls _ HT.out).mono ?_
    rintro e w2 ⟨rfl, u2⟩
    have U2 : Hid (Up w w2) := u2
    clear u2
    go_wp2_with fail
    refine (FA.out w2 U2.out).mono ?_
    rintro e w3 ⟨rfl, rfl⟩
    go_wp2_with fail
    refine (FB.out w2 U2.out).mono ?_
    rintro e w3 ⟨rfl, rfl⟩
    go_wp2_with fail
    refine (C1.out w2 U2.out).mono ?_
    rintro e w4 ⟨rfl, u4⟩
    have U4 : Hid (Up w w4) := Up.trans U2.out u4
    clear u4
    go_wp2_with fail
    refine (C2.out w4 U4.out).mono ?_
    rintro e w5 ⟨rfl, u5⟩
    have U5 : Hid (Up w w5) := Up.trans U4.out u5
    clear u5
    go_wp2_with fail
    refine (H1.out w5 U5.out).mono ?_
    rintro e w6 ⟨rfl, u6⟩
    have U6 : Hid (Up w w6) := Up.trans U5.out u6
    clear u6
    go_wp2_with fail
    refine (H2.out w6 U6.out).mono ?_
    rintro e w7 ⟨rfl, u7⟩
    have U7 : Hid (Up w w7) := Up.trans U6.out u7
    clear u7
    go_wp2_with fail
    refine (SM.out w7 U7.out).mono ?_
    rintro e w8 ⟨rfl, u8⟩
    have U8 : Hid (Up w w8) := Up.trans U7.out u8
    clear u8
    go_wp2_with fail
    clear hq
    go_loopw [5] (fun v5 wq => ∃ i : Nat, 1 ≤ i ∧ i ≤ i0 + 1 ∧ v5 = .int .i64 i ∧ Hid (Up w wq)) (fun v5 _ => n + 1 - (intOf v5).toNat)
    case atStart => exact ⟨1, by omega, by omega, rfl, U8.out⟩
    case round =>
      obtain ⟨i, hi1, hi2, rfl, HU⟩ := hrel
      have d7 : decide ((i : Int) ≤ n) = true := by simp; omega
      have hx1 : (i : Int) ≤ c := by omega
      have hx2 : (i : Int) ≤ d := by omega
      have hx0 : (0 : Int) ≤ i := by omega
      have CI := Lib.hid (CL.out i (by omega))
      haveI := UpW.some_ wr.drew
      obtain ⟨bb, hbb⟩ : ∃ bb, bb = clashB (ls.take i) (ms.take i) := ⟨_, rfl⟩
      rw [← hbb] at CI
      have HBB := Lib.hid hbb
      clear hbb
      go_wp2
      refine wp_region_up_k (by kernel_rfl) (by kernel_rfl) ?_
      intro R hR
      repeat (first | go_big_quiet_step (fail) | quiet_step ((go_at_call 17; with_reducible exact Calls.quiet_up (CI.out _ (Up.trans HU.out (Up.trans (Up.refl wr).drew (UpW.up _)))))))
      refine wpQuiet_nil (hR _ ?_)
      clear hR R
      rintro w9 ⟨z, hz⟩
      have U9 : Hid (Up w w9) := by show Up w w9; rw [hz]; exact Up.trans HU.out (Up.trans (Up.refl wr).drew z.up)
      clear hz
      cases bb
      · have hlt : i < i0 + 1 := by
          rcases Nat.lt_or_ge i (i0 + 1) with h | h
          · exact h
          · have h3 := HCL.out
            have h4 := HBB.out
            have : i = i0 + 1 := by omega
            rw [this, h3] at h4
            cases h4
        go_wp2
        exact ⟨⟨i + 1, by omega, by omega, by go_num, U9⟩, by simp [intOf]; omega⟩
      · go_wp2
        go_ret
        exact ⟨rfl, U9.out⟩

theorem lawEqual_calls (p q : Option Addr) (n m c d : Nat) (ls ms : List Lk) (w : World) (ha : In w p n c ls) (hb : In w q m d ms) (h0 : Tab0 w) (h1 : Tab w) :
    Calls Tryd.prog 5 #[.slice p n c, .slice q m d] w fun e w' => e = .returned (.bool true) ∧ Up w w' := by
  cases hfe : fewB ls with
  | false => exact equal_few1 p q n m c d ls ms w ha ⟨h0, h1⟩ hfe
  | true =>
    cases hfe2 : fewB ms with
    | false => exact equal_few2 p q n m c d ls ms w ha hb ⟨h0, h1⟩ hfe hfe2
    | true =>
      rcases Classical.em (chk ls = 0 ∧ chk ms = 0 ∧ n = m ∧ hd ls = hd ms) with h | h
      · obtain ⟨k1, k2, rfl, hh⟩ := h
        exact equal_main p q n c d ls ms w ha hb ⟨h0, h1⟩ hfe hfe2 k1 k2 hh
      · exact equal_early p q n m c d ls ms w ha hb ⟨h0, h1⟩ hfe hfe2 h

end Go.Proofs.YtpafambdccejnaaDoor
