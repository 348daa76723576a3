/- the law OffersRevealSpec. -/
import Derived.Test.YtmifpokafaiebaaDoorOwA
import Derived.Test.YtmifpokafaiebaaDoorFwA
namespace Go.Proofs.YtmifpokafaiebaaDoor
open Go Go.RowKit
set_option linter.unusedVariables false
set_option maxRecDepth 100000

set_option maxHeartbeats 8000000 in
theorem lawRev_calls (p q : Option Addr) (n c m d : Nat) (sls : List SlA) (xs : List OpA) (w : World) (hn : n = sls.length) (hm : m = xs.length) (hc : n ≤ c) (hcm : c ≤ maxLen) (hd : m ≤ d) (hdm : d ≤ maxLen)
    (hr : RowAt w p 2 slCells sls) (hsl : ∀ s ∈ sls, SlAt w s) (hx : RowAt w q 7 opCells xs) (hxa : ∀ x ∈ xs, OpAt w x) (t0 : Tab0 w) (t1 : Tab w) :
    Calls Tryd.prog 4 #[.slice p n c, .slice q m d] w fun e w' => e = .returned (.bool true) ∧ Up w w' := by
  have HT : Hid (Tabs w) := ⟨t0, t1⟩
  have SN := Lib.hid fun W (hu : Up w W) => sane44_calls W (HT.out.up hu)
  have FW := Lib.hid fun W (hu : Up w W) => rfew_calls p q n c m d sls xs W hn hm hc hcm hd hdm (hr.kept2 hu) (hx.kept2 hu)
  have RP := Lib.hid fun W (hu : Up w W) => reveal_calls p q n c m d sls xs W hn hm hc hcm hd hdm (hr.kept2 hu) (fun s hs => (hsl s hs).up hu) (hx.kept2 hu) (fun x hx => (hxa x hx).up hu) (HT.out.up hu)
  have RR := Lib.hid fun W (hu : Up w W) => rreveal_calls p q n c m d sls xs W hn hm hc hcm hd hdm (hr.kept2 hu) (fun s hs => (hsl s hs).up hu) (hx.kept2 hu) (fun x hx => (hxa x hx).up hu)
  have FL : Hid (fewB sls xs = true → (revO sls xs).length ≤ 100 ∧ (revS sls xs).length ≤ 100) := fun h => ⟨Nat.le_trans (revO_len _ _) (few_len h).1, Nat.le_trans (revS_len _ _) (few_len h).1⟩
  obtain ⟨fw, hfw⟩ : ∃ fw, fw = fewB sls xs := ⟨_, rfl⟩
  obtain ⟨nl, hnl⟩ : ∃ nl, nl = (revO sls xs).length := ⟨_, rfl⟩
  obtain ⟨ns, hns⟩ : ∃ ns, ns = (revS sls xs).length := ⟨_, rfl⟩
  obtain ⟨ee, hee⟩ : ∃ ee, ee = revE sls xs := ⟨_, rfl⟩
  rw [← hfw] at FW FL
  rw [← hnl, ← hns] at FL
  rw [← hee] at RP RR
  have HNL := Lib.hid hnl
  have HNS := Lib.hid hns
  clear hn hm hr hsl hx hxa t0 t1 HT hfw hnl hns hee hc hcm hd hdm
  go_enter Tryd.func4, Tryd.ntmps4
  go_wp2_with fail
  refine (SN.out w (Up.refl w)).mono ?_
  rintro e W1 ⟨rfl, u1⟩
  have U1 : Hid (Up w W1) := u1
  clear u1 SN
  go_wp2_with fail
  refine (FW.out W1 U1.out).mono ?_
  rintro e W2 ⟨rfl, u2⟩
  have U2 : Hid (Up w W2) := Up.trans U1.out u2
  clear u2 FW
  cases fw
  case false =>
    go_wp2_with fail
    go_ret
    exact ⟨rfl, U2.out⟩
  have FL2 := Lib.hid (FL.out rfl)
  clear FL
  go_wp2_with fail
  refine (RP.out W2 U2.out).mono ?_
  intro e W3 hR
  obtain ⟨p1, k1, q1, j1, A1, he, r1⟩ := hR.lit HNL.out.symm HNS.out.symm
  subst he
  have U3 : Hid (Up w W3) := Up.trans U2.out r1.up
  have R1 := Lib.hid r1
  clear hR r1 RP
  go_wp2_with fail
  refine (RR.out W3 U3.out).mono ?_
  intro e W4 hR
  obtain ⟨p2, k2, q2, j2, A2, he, r2⟩ := hR.lit HNL.out.symm HNS.out.symm
  subst he
  have U4 : Hid (Up w W4) := Up.trans U3.out r2.up
  have R14 := Lib.hid (R1.out.kept r2.up)
  have R2 := Lib.hid r2
  clear hR r2 RR R1
  go_wp2_with fail
  refine (rsameAll_calls p1 p2 nl nl k1 k2 A1 A2 W4 R14.out.len.symm R2.out.len.symm (by have := FL2.out; omega) R14.out.c1 R14.out.c2 R2.out.c1 R2.out.c2 R14.out.row R2.out.row (fun a ha => ⟨R14.out.lts a ha, R14.out.lots a ha⟩) R2.out.lts).mono ?_
  rintro e W5 ⟨he, u5⟩
  rw [decide_eq_true (R14.out.eq.trans R2.out.eq.symm)] at he
  subst he
  have U5 : Hid (Up w W5) := Up.trans U4.out u5
  have R15 := Lib.hid (R14.out.kept u5)
  have R25 := Lib.hid (R2.out.kept u5)
  clear u5 R14 R2
  go_wp2_with fail
  refine (rsameNumbers_calls q1 q2 ns ns j1 j2 (revS sls xs) (revS sls xs) W5 HNS.out HNS.out (by have := FL2.out; omega) R15.out.d1 R15.out.d2 R25.out.d1 R25.out.d2 R15.out.row2 R25.out.row2).mono ?_
  rintro e W6 ⟨he, u6⟩
  rw [decide_eq_true rfl] at he
  subst he
  have U6 : Hid (Up w W6) := Up.trans U5.out u6
  have e1 : (ee == ee) = true := by simp
  clear u6 R15 R25
  go_wp2_with fail
  go_ret
  exact ⟨rfl, U6.out⟩

end Go.Proofs.YtmifpokafaiebaaDoor
