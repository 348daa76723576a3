/- chapter 57: the law ProofsSpec. -/
import Derived.Test.YtobcfhninchnkaaDoorLwA
import Derived.Test.YtobcfhninchnkaaDoorRfA
namespace Go.Proofs.YtobcfhninchnkaaDoor
open Go Go.RowKit
set_option linter.unusedVariables false
set_option maxRecDepth 100000

theorem provS_okS (l : List Sh) (i : Int) : (∀ s ∈ provS l i, s.ok) ∧ (provS l i).length ≤ 700 := by
  unfold provS
  by_cases h : provE l i = 0
  · rw [if_pos h]
    obtain ⟨h1, h2, h3⟩ := provE_zero h
    obtain ⟨h4, h5, h6⟩ := chkE_ok h1
    exact pathS_ok h3 (by omega) h6
  · rw [if_neg h]
    exact ⟨fun s hs => (by cases hs), (by simp)⟩
theorem rootS_hash (l : List Sh) : (rootS l).hash.length = 32 := by
  unfold rootS
  split
  · rename_i h0
    obtain ⟨h1, h2, h3⟩ := chkE_ok h0
    exact (treeS_ok h1 (by omega) h3).hash
  · rfl

set_option maxHeartbeats 4000000 in
theorem lawSpec_skip (p : Option Addr) (n c : Nat) (i : Int) (w : World) (htab : Tabs w) (h : fewB n = false) :
    Calls Tryd.prog 3 #[.slice p n c, .int .i64 i] w fun e w' => e = .returned (.bool true) ∧ Up w w' := by
  have SN := Lib.hid (sane57_calls w htab)
  have F1 := Lib.hid fun W => rfew_calls p n c W
  rw [h] at F1
  clear h htab
  go_enter Tryd.func3, Tryd.ntmps3
  go_wp2_with fail
  refine SN.out.mono ?_
  rintro e w1 ⟨rfl, u1⟩
  have U1 := Lib.hid u1
  clear u1
  go_wp2_with fail
  refine (F1.out w1).mono ?_
  rintro e w2 ⟨rfl, rfl⟩
  go_wp2
  go_ret
  exact ⟨rfl, U1.out⟩

set_option maxHeartbeats 4000000 in
theorem lawSpec_go (p : Option Addr) (n c : Nat) (ls : List Sh) (i : Int) (w : World) (htab : Tabs w) (hf : fewB n = true) (hn : n = ls.length) (h1 : Shares w p ls) (hc : n ≤ c) (hcm : c ≤ maxLen) :
    Calls Tryd.prog 3 #[.slice p n c, .int .i64 i] w fun e w' => e = .returned (.bool true) ∧ Up w w' := by
  have SN := Lib.hid (sane57_calls w htab)
  have F1 := Lib.hid fun W => rfew_calls p n c W
  rw [hf] at F1
  have RT := Lib.hid fun W (hu : Up w W) => root_calls p n c ls W hn (h1.up hu) hc hcm (htab.up hu)
  have RR := Lib.hid fun W (hu : Up w W) => rroot_calls p n c ls W hn (h1.up hu) hc hcm (htab.up hu)
  have PV := Lib.hid fun W (hu : Up w W) => prove_calls p n c ls i W hn (h1.up hu) hc hcm (htab.up hu)
  have RP := Lib.hid fun W (hu : Up w W) => rprove_calls p n c ls i W hn (h1.up hu) hc hcm (htab.up hu)
  obtain ⟨pok, plen⟩ := provS_okS ls i
  obtain ⟨PP, hPP⟩ : ∃ P, P = provS ls i := ⟨_, rfl⟩
  rw [← hPP] at PV RP pok plen
  have HPO := Lib.hid fun s (hs : s ∈ PP) => (pok s hs).hash
  have HPL := Lib.hid plen
  obtain ⟨ee, hee⟩ : ∃ ee, ee = chkE ls := ⟨_, rfl⟩
  obtain ⟨gg, hgg⟩ : ∃ gg, gg = provE ls i := ⟨_, rfl⟩
  rw [← hee] at RT RR
  rw [← hgg] at PV RP
  have d1 : (ee == ee) = true := by simp
  have d2 : (gg == gg) = true := by simp
  have hs := rootS_hash ls
  have EQ := fun W => run_eql_sum (rootS ls) (rootS ls) W hs hs
  rw [show decide (rootS ls = rootS ls) = true by simp] at EQ
  have Ds : Hid ((smCells (rootS ls)).toArray.size = 35) := by have := smCells_len hs; show _ = _; simpa using this
  have Dc : Hid ((smCells (rootS ls)).toArray.all (·.oneCell') = true) := smCells_all _
  obtain ⟨D, hD⟩ : ∃ D, D = (smCells (rootS ls)).toArray := ⟨_, rfl⟩
  rw [← hD] at RT RR EQ Ds Dc
  clear hD hs hee hgg hPP pok plen hf hn h1 htab
  go_enter Tryd.func3, Tryd.ntmps3
  go_wp2_with fail
  refine SN.out.mono ?_
  rintro e w1 ⟨rfl, u1⟩
  have U1 := Lib.hid u1
  clear u1 SN
  go_wp2_with fail
  refine (F1.out w1).mono ?_
  rintro e w2 ⟨rfl, rfl⟩
  go_wp2_with fail
  refine (RT.out _ U1.out).mono ?_
  rintro e w3 ⟨rfl, u3⟩
  have U3 : Hid (Up w w3) := Up.trans U1.out u3
  clear u3
  go_wp2_with (first | (refine wpList_allocG rfl 28 35 allocsSum rfl ?_; intro A7 au az ahz; obtain ⟨Z7, hZz, hbz⟩ := ahz; have AU7 := Lib.hid au; have HZ7 := Lib.hid hZz; have HB7 := Lib.hid hbz; clear au az hZz hbz) | (refine wpList_store_row rfl 28 (.tmp 5) (.tmp 21) rfl _ D rfl rfl 28 _ HB7.out (by rw [Ds.out]; rfl) (by rw [HZ7.out, Ds.out]) Dc.out ?_; refine wpList_named ?_; intro W7 hW7; (have un := setRow_upN hW7 AU7.out (Nat.le_refl _)); (have pn := setRow_named hW7 HB7.out); have P7 := Lib.hid pn; (have U7 : Hid (Up w W7) := Up.trans U3.out un); clear un pn hW7))
  refine (RR.out W7 U7.out).mono ?_
  rintro e w8 ⟨rfl, u8⟩
  have U8 : Hid (Up w w8) := Up.trans U7.out u8
  have P8 := Lib.hid ((u8.block _ (lt_of_block P7.out)).trans P7.out)
  clear u8
  go_wp2_with (first | (refine wpList_allocG rfl 28 35 allocsSum rfl ?_; intro A9 au az ahz; obtain ⟨Z9, hZz, hbz⟩ := ahz; have AU9 := Lib.hid au; have HZ9 := Lib.hid hZz; have HB9 := Lib.hid hbz; clear au az hZz hbz) | (refine wpList_store_row rfl 28 (.tmp 7) (.tmp 26) rfl _ D rfl rfl 28 _ HB9.out (by rw [Ds.out]; rfl) (by rw [HZ9.out, Ds.out]) Dc.out ?_; refine wpList_named ?_; intro W9 hW9; (have un := setRow_upN hW9 AU9.out (Nat.le_refl _)); (have pn := setRow_named hW9 HB9.out); have Q9 := Lib.hid pn; (have U9 : Hid (Up w W9) := Up.trans U8.out un); (have P9 := Lib.hid ((un.block _ (lt_of_block P8.out)).trans P8.out)); clear un pn hW9))
  refine (PV.out W9 U9.out).mono ?_
  rintro e w10 ⟨v1, rfl, o10, u10⟩
  obtain ⟨p1, c1, rfl, h11, h12, h13, -⟩ := o10.form (fun x hx => smCells_len (HPO.out x hx))
  have U10 : Hid (Up w w10) := Up.trans U9.out u10
  have P10 := Lib.hid ((u10.block _ (lt_of_block P9.out)).trans P9.out)
  have Q10 := Lib.hid ((u10.block _ (lt_of_block Q9.out)).trans Q9.out)
  have R10 := Lib.hid h13
  clear o10 u10 h13
  go_wp2_with fail
  refine (RP.out w10 U10.out).mono ?_
  rintro e w11 ⟨v2, rfl, o11, u11⟩
  obtain ⟨p2, c2, rfl, h21, h22, h23, -⟩ := o11.form (fun x hx => smCells_len (HPO.out x hx))
  have U11 : Hid (Up w w11) := Up.trans U10.out u11
  have P11 := Lib.hid ((u11.block _ (lt_of_block P10.out)).trans P10.out)
  have Q11 := Lib.hid ((u11.block _ (lt_of_block Q10.out)).trans Q10.out)
  have SM := Lib.hid (rsame_calls p1 p2 PP.length PP.length c1 c2 PP PP w11 rfl rfl HPO.out HPO.out (R10.out.up u11) h23 (by have := HPL.out; omega))
  rw [show decide (PP = PP) = true by simp] at SM
  clear o11 u11 h23
  go_wp2_with (first | ((with_reducible show wpList _ _ _ (Oper.mk _ (Op.load _ (Operand.tmp 5)) _ _ _ _ :: _) _ _); refine wpList_load_arr rfl 28 (.tmp 5) rfl _ 0 rfl D _ (rangeAt_row P11.out) rfl rfl (by rw [Ds.out]; rfl) ?_) | ((with_reducible show wpList _ _ _ (Oper.mk _ (Op.load _ (Operand.tmp 7)) _ _ _ _ :: _) _ _); refine wpList_load_arr rfl 28 (.tmp 7) rfl _ 0 rfl D _ (rangeAt_row Q11.out) rfl rfl (by rw [Ds.out]; rfl) ?_))
  refine SM.out.mono ?_
  rintro e w12 ⟨rfl, u12⟩
  have U12 : Hid (Up w w12) := Up.trans U11.out u12
  clear u12 EQ
  go_wp2
  go_ret
  exact ⟨rfl, U12.out⟩

theorem lawSpec_calls (p : Option Addr) (n c : Nat) (ls : List Sh) (i : Int) (w : World) (hn : n = ls.length) (h1 : RowAt w p 5 (fun x : Sh => (shCells x).toList) ls) (hc : n ≤ c) (hcm : c ≤ maxLen) (t0 : Tab0 w) (t1 : Tab w) :
    Calls Tryd.prog 3 #[.slice p n c, .int .i64 i] w fun e w' => e = .returned (.bool true) ∧ Up w w' := by
  cases h : fewB n
  · exact lawSpec_skip p n c i w ⟨t0, t1⟩ h
  · exact lawSpec_go p n c ls i w ⟨t0, t1⟩ h hn h1 hc hcm

end Go.Proofs.YtobcfhninchnkaaDoor
