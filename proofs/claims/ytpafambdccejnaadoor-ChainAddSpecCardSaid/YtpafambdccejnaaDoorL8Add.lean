/- THE WALK OF acequialaw08.ChainAddSpec. -/
import Derived.Test.YtpafambdccejnaaDoorL8Open
namespace Go.Proofs.YtpafambdccejnaaDoor
open Go.RowKit
set_option linter.unusedVariables false

/-- both Adds say the same -/
theorem both_add (p q : Option Addr) (n c m d : Nat) (node : Int) (ls : List Lk) (l : List UInt8) (w : World) (ha : In w p n c ls) (hf : Few ls) (h16 : ls.length ≤ 16) (hm : m = l.length) (hmd : m ≤ d) (hdm : d ≤ maxLen) (hsb : SB w q l) (htab : Tabs w) (hl : l.length ≤ 300 ∨ 65536 < l.length) :
    ∃ (R : List Lk) (E : Int), Few R ∧
      (∀ W, Up w W → Calls Tryd.prog 10 #[.slice p n c, .int .i64 node, .slice q m d] W fun e w' => ∃ p' n' c', e = .returned (.tuple #[.slice p' n' c', .int .i64 E]) ∧ n' = R.length ∧ Up W w' ∧ Links w' p' R) ∧
      (∀ W, Up w W → Calls Tryd.prog 11 #[.slice p n c, .int .i64 node, .slice q m d] W fun e w' => ∃ p' n' c', e = .returned (.tuple #[.slice p' n' c', .int .i64 E]) ∧ n' = R.length ∧ Up W w' ∧ Links w' p' R) := by
  rcases chk_cases ls with hk | hk
  case inr =>
    refine ⟨[], 80, few_nil, fun W hu => ?_, fun W hu => ?_⟩
    · refine (add_chk p q n c m d node ls W ha.len hf (ha.links.up hu) (htab.up hu) ha.cap ha.max hk).mono ?_
      rintro e w' ⟨rfl, u⟩
      exact ⟨none, 0, 0, rfl, rfl, u, Links.nil _ _⟩
    · refine (radd_chk p q n c m d node ls W ha.len hf (ha.links.up hu) ha.cap ha.max hk).mono ?_
      rintro e w' ⟨rfl, u⟩
      exact ⟨none, 0, 0, rfl, rfl, u, Links.nil _ _⟩
  cases hg : addArg ls node l with
  | true =>
    refine ⟨[], 1, few_nil, fun W hu => ?_, fun W hu => ?_⟩
    · refine (add_arg p q n c m d node ls l W ha.len hm hf (ha.links.up hu) (htab.up hu) ha.cap ha.max hk hg).mono ?_
      rintro e w' ⟨rfl, u⟩
      exact ⟨none, 0, 0, rfl, rfl, u, Links.nil _ _⟩
    · refine (radd_arg p q n c m d node ls l W ha.len hm hf (ha.links.up hu) ha.cap ha.max hk hg).mono ?_
      rintro e w' ⟨rfl, u⟩
      exact ⟨none, 0, 0, rfl, rfl, u, Links.nil _ _⟩
  | false =>
    obtain ⟨a1, a2, a3, a4⟩ := addArg_false hg
    refine ⟨ls ++ [newLk ls node l], 0, few_snoc hf (by omega) (newLk_ok hf a1 a2 (by omega)), fun W hu => ?_, fun W hu => ?_⟩
    · refine (add_ok p q n c m d node ls l W ha.len hm hf (ha.links.up hu) (hsb.up hu) (htab.up hu) ha.cap ha.max hk hg).mono ?_
      rintro e w' ⟨p', c', rfl, u, _, _, h3⟩
      exact ⟨p', n + 1, c', rfl, by rw [List.length_append, ← ha.len]; rfl, u, h3⟩
    · refine (radd_ok p q n c m d node ls l W ha.len hm hf (ha.links.up hu) hmd hdm (hsb.up hu) ha.cap ha.max hk hg).mono ?_
      rintro e w' ⟨p', c', rfl, u, _, _, h3⟩
      exact ⟨p', n + 1, c', rfl, by rw [List.length_append, ← ha.len]; rfl, u, h3⟩

set_option maxHeartbeats 2000000 in
theorem addspec_few1 (p q r : Option Addr) (n c m d k e' : Nat) (node : Int) (ls ms : List Lk) (w : World) (ha : In w p n c ls) (htab : Tabs w) (hfe : fewB ls = false) :
    Calls Tryd.prog 3 #[.slice p n c, .slice q m d, .int .i64 node, .slice r k e'] w fun e w' => e = .returned (.bool true) ∧ Up w w' := by
  have HT := Lib.hid htab
  have FA := Lib.hid fun W (hu : Up w W) => few_calls p n c ls W ha.len ha.wf (ha.links.up hu) ha.cap ha.max
  rw [hfe] at FA
  clear htab ha hfe
  go_enter Tryd.func3, Tryd.ntmps3
  go_wp2_with fail
  refine (sane08_calls _ HT.out).mono ?_
  rintro e w2 ⟨rfl, u2⟩
  have U2 : Hid (Up w w2) := u2
  clear u2
  go_wp2_with fail
  refine (FA.out w2 U2.out).mono ?_
  rintro e w3 ⟨rfl, rfl⟩
  go_wp2_with fail
  go_ret
  exact ⟨rfl, U2.out⟩

set_option maxHeartbeats 2000000 in
theorem addspec_few2 (p q r : Option Addr) (n c m d k e' : Nat) (node : Int) (ls ms : List Lk) (w : World) (ha : In w p n c ls) (hb : In w q m d ms) (htab : Tabs w) (hfe : fewB ls = true) (hfe2 : fewB ms = false) :
    Calls Tryd.prog 3 #[.slice p n c, .slice q m d, .int .i64 node, .slice r k e'] w fun e w' => e = .returned (.bool true) ∧ Up w w' := by
  have HT := Lib.hid htab
  have FA := Lib.hid fun W (hu : Up w W) => few_calls p n c ls W ha.len ha.wf (ha.links.up hu) ha.cap ha.max
  have FB := Lib.hid fun W (hu : Up w W) => few_calls q m d ms W hb.len hb.wf (hb.links.up hu) hb.cap hb.max
  rw [hfe] at FA
  rw [hfe2] at FB
  clear htab ha hb hfe hfe2
  go_enter Tryd.func3, Tryd.ntmps3
  go_wp2_with fail
  refine (sane08_calls _ HT.out).mono ?_
  rintro e w2 ⟨rfl, u2⟩
  have U2 : Hid (Up w w2) := u2
  clear u2
  go_wp2_with fail
  refine (FA.out w2 U2.out).mono ?_
  rintro e w3 ⟨rfl, rfl⟩
  go_wp2_with fail
  refine (FB.out w2 U2.out).mono ?_
  rintro e w3 ⟨rfl, rfl⟩
  go_wp2_with fail
  go_ret
  exact ⟨rfl, U2.out⟩

set_option maxHeartbeats 2000000 in
theorem addspec_mid (p q r : Option Addr) (n c m d k e' : Nat) (node : Int) (ls ms : List Lk) (w : World) (ha : In w p n c ls) (hb : In w q m d ms) (htab : Tabs w) (hfe : fewB ls = true) (hfe2 : fewB ms = true) (h1 : 300 < k) (h2 : k ≤ 65536) :
    Calls Tryd.prog 3 #[.slice p n c, .slice q m d, .int .i64 node, .slice r k e'] w fun e w' => e = .returned (.bool true) ∧ Up w w' := by
  have HT := Lib.hid htab
  have FA := Lib.hid fun W (hu : Up w W) => few_calls p n c ls W ha.len ha.wf (ha.links.up hu) ha.cap ha.max
  have FB := Lib.hid fun W (hu : Up w W) => few_calls q m d ms W hb.len hb.wf (hb.links.up hu) hb.cap hb.max
  rw [hfe] at FA
  rw [hfe2] at FB
  have d1 : decide ((300 : Int) < (k : Int)) = true := by simp; omega
  have d2 : decide ((k : Int) ≤ 65536) = true := by simp; omega
  clear htab ha hb hfe hfe2
  go_enter Tryd.func3, Tryd.ntmps3
  go_wp2_with fail
  refine (sane08_calls _ HT.out).mono ?_
  rintro e w2 ⟨rfl, u2⟩
  have U2 : Hid (Up w w2) := u2
  clear u2
  go_wp2_with fail
  refine (FA.out w2 U2.out).mono ?_
  rintro e w3 ⟨rfl, rfl⟩
  go_wp2_with fail
  refine (FB.out w2 U2.out).mono ?_
  rintro e w3 ⟨rfl, rfl⟩
  go_wp2_with fail
  go_ret
  exact ⟨rfl, U2.out⟩

set_option maxHeartbeats 2000000 in
theorem addspec_main (p q r : Option Addr) (n c m d k e' : Nat) (node : Int) (ls ms : List Lk) (l : List UInt8) (w : World) (ha : In w p n c ls) (hb : In w q m d ms) (hk : k = l.length) (hke : k ≤ e') (hem : e' ≤ maxLen) (hsb : SB w r l) (htab : Tabs w) (hfe : fewB ls = true) (hfe2 : fewB ms = true) (hl : l.length ≤ 300 ∨ 65536 < l.length) :
    Calls Tryd.prog 3 #[.slice p n c, .slice q m d, .int .i64 node, .slice r k e'] w fun e w' => e = .returned (.bool true) ∧ Up w w' := by
  have HT := Lib.hid htab
  obtain ⟨hf, hf16⟩ := fewB_few ha.wf hfe
  obtain ⟨hg, hg16⟩ := fewB_few hb.wf hfe2
  have FA := Lib.hid fun W (hu : Up w W) => few_calls p n c ls W ha.len ha.wf (ha.links.up hu) ha.cap ha.max
  have FB := Lib.hid fun W (hu : Up w W) => few_calls q m d ms W hb.len hb.wf (hb.links.up hu) hb.cap hb.max
  rw [hfe] at FA
  rw [hfe2] at FB
  obtain ⟨R, E, hR, hA1, hA2⟩ := both_add p r n c k e' node ls l w ha hf hf16 hk hke hem hsb htab hl
  have A1 := Lib.hid hA1
  have A2 := Lib.hid hA2
  have HR := Lib.hid hR
  have P1 := Lib.hid fun W (hu : Up w W) => part_calls p q n m c d ls ms W ha.len hb.len hf hg (ha.links.up hu) (hb.links.up hu) (htab.up hu) ha.cap ha.max hb.cap hb.max
  have P2 := Lib.hid fun W (hu : Up w W) => rpart_calls p q n m c d ls ms W ha.len hb.len hf hg (ha.links.up hu) (hb.links.up hu) ha.cap ha.max hb.cap hb.max
  obtain ⟨pi, hpi⟩ : ∃ x, x = parI ls ms := ⟨_, rfl⟩
  obtain ⟨pb, hpb⟩ : ∃ x, x = parB ls ms := ⟨_, rfl⟩
  obtain ⟨pe, hpe⟩ : ∃ x, x = parE ls ms := ⟨_, rfl⟩
  rw [← hpi, ← hpb, ← hpe] at P1 P2
  have hl' : k ≤ 300 ∨ 65536 < k := by rw [hk]; exact hl
  clear hf hg ha hb hfe hfe2 htab hf16 hg16 hR hA1 hA2 hpi hpb hpe hk hke hem hsb hl
  rcases hl' with hl | hl
  · have d1 : decide ((300 : Int) < (k : Int)) = false := by simp; omega
    clear hl
    go_enter Tryd.func3, Tryd.ntmps3
    go_wp2_with fail
    refine (sane08_calls _ HT.out).mono ?_
    rintro e w2 ⟨rfl, u2⟩
    have U2 : Hid (Up w w2) := u2
    clear u2
    go_wp2_with fail
    refine (FA.out w2 U2.out).mono ?_
    rintro e w3 ⟨rfl, rfl⟩
    go_wp2_with fail
    refine (FB.out w2 U2.out).mono ?_
    rintro e w3 ⟨rfl, rfl⟩
    go_wp2_with fail
    refine (A1.out w2 U2.out).mono ?_
    rintro e w4 ⟨p4, n4, c4, rfl, h4, u4, l4⟩
    have U4 : Hid (Up w w4) := Up.trans U2.out u4
    have H4 := Lib.hid h4
    have L4 := Lib.hid l4
    clear u4 h4 l4
    go_wp2_with fail
    refine (A2.out w4 U4.out).mono ?_
    rintro e w5 ⟨p5, n5, c5, rfl, h5, u5, l5⟩
    have U5 : Hid (Up w w5) := Up.trans U4.out u5
    have H5 := Lib.hid h5
    have L5 := Lib.hid l5
    have L45 : Hid (Links w5 p4 R) := L4.out.up u5
    clear u5 h5 l5
    go_wp2_with fail
    refine (P1.out w5 U5.out).mono ?_
    rintro e w6 ⟨rfl, u6⟩
    have U6 : Hid (Up w w6) := Up.trans U5.out u6
    have X6 : Hid (Up w5 w6) := u6
    clear u6
    go_wp2_with fail
    refine (P2.out w6 U6.out).mono ?_
    rintro e w7 ⟨rfl, u7⟩
    have U7 : Hid (Up w w7) := Up.trans U6.out u7
    have X7 : Hid (Up w5 w7) := Up.trans X6.out u7
    clear u7
    go_wp2_with fail
    have SM := same_calls p4 p5 n4 n5 c4 c5 R R w7 H4.out H5.out HR.out HR.out (L45.out.up X7.out) (L5.out.up X7.out)
    rw [decide_eq_true rfl] at SM
    refine SM.mono ?_
    clear SM
    rintro e w8 ⟨rfl, u8⟩
    have U8 : Hid (Up w w8) := Up.trans U7.out u8
    clear u8
    go_wp2_with fail
    go_ret
    exact ⟨rfl, U8.out⟩
  · have d1 : decide ((300 : Int) < (k : Int)) = true := by simp; omega
    have d2 : decide ((k : Int) ≤ 65536) = false := by simp; omega
    clear hl
    go_enter Tryd.func3, Tryd.ntmps3
    go_wp2_with fail
    refine (sane08_calls _ HT.out).mono ?_
    rintro e w2 ⟨rfl, u2⟩
    have U2 : Hid (Up w w2) := u2
    clear u2
    go_wp2_with fail
    refine (FA.out w2 U2.out).mono ?_
    rintro e w3 ⟨rfl, rfl⟩
    go_wp2_with fail
    refine (FB.out w2 U2.out).mono ?_
    rintro e w3 ⟨rfl, rfl⟩
    go_wp2_with fail
    refine (A1.out w2 U2.out).mono ?_
    rintro e w4 ⟨p4, n4, c4, rfl, h4, u4, l4⟩
    have U4 : Hid (Up w w4) := Up.trans U2.out u4
    have H4 := Lib.hid h4
    have L4 := Lib.hid l4
    clear u4 h4 l4
    go_wp2_with fail
    refine (A2.out w4 U4.out).mono ?_
    rintro e w5 ⟨p5, n5, c5, rfl, h5, u5, l5⟩
    have U5 : Hid (Up w w5) := Up.trans U4.out u5
    have H5 := Lib.hid h5
    have L5 := Lib.hid l5
    have L45 : Hid (Links w5 p4 R) := L4.out.up u5
    clear u5 h5 l5
    go_wp2_with fail
    refine (P1.out w5 U5.out).mono ?_
    rintro e w6 ⟨rfl, u6⟩
    have U6 : Hid (Up w w6) := Up.trans U5.out u6
    have X6 : Hid (Up w5 w6) := u6
    clear u6
    go_wp2_with fail
    refine (P2.out w6 U6.out).mono ?_
    rintro e w7 ⟨rfl, u7⟩
    have U7 : Hid (Up w w7) := Up.trans U6.out u7
    have X7 : Hid (Up w5 w7) := Up.trans X6.out u7
    clear u7
    go_wp2_with fail
    have SM := same_calls p4 p5 n4 n5 c4 c5 R R w7 H4.out H5.out HR.out HR.out (L45.out.up X7.out) (L5.out.up X7.out)
    rw [decide_eq_true rfl] at SM
    refine SM.mono ?_
    clear SM
    rintro e w8 ⟨rfl, u8⟩
    have U8 : Hid (Up w w8) := Up.trans U7.out u8
    clear u8
    go_wp2_with fail
    go_ret
    exact ⟨rfl, U8.out⟩

theorem lawAddSpec_calls (p q r : Option Addr) (n c m d e' : Nat) (node : Int) (ls ms : List Lk) (l : List UInt8) (w : World) (ha : In w p n c ls) (hb : In w q m d ms) (hke : l.length ≤ e') (hem : e' ≤ maxLen) (hsb : SB w r l) (h0 : Tab0 w) (h1 : Tab w) :
    Calls Tryd.prog 3 #[.slice p n c, .slice q m d, .int .i64 node, .slice r l.length e'] w fun e w' => e = .returned (.bool true) ∧ Up w w' := by
  cases hfe : fewB ls with
  | false => exact addspec_few1 p q r n c m d l.length e' node ls ms w ha ⟨h0, h1⟩ hfe
  | true =>
    cases hfe2 : fewB ms with
    | false => exact addspec_few2 p q r n c m d l.length e' node ls ms w ha hb ⟨h0, h1⟩ hfe hfe2
    | true =>
      by_cases hm : 300 < l.length ∧ l.length ≤ 65536
      · exact addspec_mid p q r n c m d l.length e' node ls ms w ha hb ⟨h0, h1⟩ hfe hfe2 hm.1 hm.2
      · exact addspec_main p q r n c m d l.length e' node ls ms l w ha hb rfl hke hem hsb ⟨h0, h1⟩ hfe hfe2 (by omega)

end Go.Proofs.YtpafambdccejnaaDoor
