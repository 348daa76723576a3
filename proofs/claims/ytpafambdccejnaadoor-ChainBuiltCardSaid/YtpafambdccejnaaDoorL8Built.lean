/- THE WALK OF acequialaw08.ChainBuilt. -/
import Derived.Test.YtpafambdccejnaaDoorL8Set
namespace Go.Proofs.YtpafambdccejnaaDoor
open Go.RowKit
set_option linter.unusedVariables false

/-- the chain of the first data -/
def bld (node : Int) (L : Nat → List UInt8) : Nat → List Lk
  | 0 => []
  | i + 1 => bld node L i ++ [newLk (bld node L i) node (L i)]
section
variable {node : Int} {L : Nat → List UInt8}
theorem bld_len (i : Nat) : (bld node L i).length = i := by
  induction i with
  | zero => rfl
  | succ i ih => simp [bld, ih]
theorem bld_few (h1 : 0 ≤ node) (h2 : node < 24) : ∀ i, i ≤ 12 → (∀ j, j < i → (L j).length ≤ 300) → Few (bld node L i)
  | 0, _, _ => few_nil
  | i + 1, hi, hd => few_snoc (bld_few h1 h2 i (by omega) fun j hj => hd j (by omega)) (by rw [bld_len]; omega) (newLk_ok (bld_few h1 h2 i (by omega) fun j hj => hd j (by omega)) h1 h2 (hd i (by omega)))
theorem nd0_snoc (ls : List Lk) (x : Lk) (h : ls ≠ []) : nd0 (ls ++ [x]) = nd0 ls := by
  cases ls with
  | nil => exact absurd rfl h
  | cons y ys => rfl
theorem bld_nd : ∀ i, bld node L i ≠ [] → nd0 (bld node L i) = node
  | 0, h => absurd rfl h
  | i + 1, _ => by
    by_cases he : bld node L i = []
    · simp only [bld, he]; rfl
    · rw [bld, nd0_snoc _ _ he, bld_nd i he]
theorem bld_arg (h1 : 0 ≤ node) (h2 : node < 24) (i : Nat) (hd : (L i).length ≤ 300) : addArg (bld node L i) node (L i) = false := by
  unfold addArg
  rw [decide_eq_false_iff_not]
  rintro (h | h | ⟨h3, h4⟩ | h)
  · omega
  · omega
  · exact h4 (bld_nd i h3).symm
  · omega
theorem bld_chk (h1 : 0 ≤ node) (h2 : node < 24) : ∀ i, (∀ j, j < i → (L j).length ≤ 300) → chk (bld node L i) = 0
  | 0, _ => by rw [chk_zero]; intro j hj; simp [bld] at hj
  | i + 1, hd => chk_add (bld_chk h1 h2 i fun j hj => hd j (by omega)) (bld_arg h1 h2 i (hd i (by omega)))
theorem bld_take (i : Nat) : (bld node L (i + 1)).take i = bld node L i := by
  rw [bld, List.take_append_of_le_length (by rw [bld_len]; omega), List.take_of_length_le (by rw [bld_len]; omega)]
theorem bld_take' (i k : Nat) : (bld node L (i + k)).take i = bld node L i := by
  induction k with
  | zero => rw [List.take_of_length_le (by rw [bld_len]; omega)]; rfl
  | succ k ih =>
    rw [show i + (k + 1) = (i + k) + 1 by omega, bld, List.take_append_of_le_length (by rw [bld_len]; omega), ih]
theorem bld_get (i : Nat) (h : i < (bld node L (i + 1)).length) : (bld node L (i + 1))[i] = newLk (bld node L i) node (L i) := by
  simp only [bld]
  rw [List.getElem_append_right (by rw [bld_len]; omega)]
  simp
end

/-- a row of byte slices that came in -/
structure BB (w : World) (p : Option Addr) (n c : Nat) (L : Nat → List UInt8) : Prop where
  cell : ∀ i, i < n → ∃ b o q d, p = some ⟨b, o, none⟩ ∧ w.cell? ⟨b, o + i, none⟩ = some (.slice q (L i).length d) ∧ (L i).length ≤ d ∧ d ≤ maxLen ∧ SB w q (L i)
  cap : n ≤ c
  max : c ≤ maxLen
theorem lkAt_node {w : World} {b o : Nat} {x : Lk} (h : LkAt w b o x) : w.cell? ⟨b, o, none⟩ = some (.int .i64 x.node) := by
  obtain ⟨cs, ⟨p, c, hcs, _⟩, hrg⟩ := h
  have := hrg 0 _ (by rw [hcs]; rfl)
  simpa using this

set_option maxRecDepth 100000 in
set_option maxHeartbeats 2000000 in
theorem built_early (p : Option Addr) (n c : Nat) (node : Int) (w : World) (htab : Tabs w) (hno : 12 < n ∨ node < 0 ∨ 24 ≤ node) :
    Calls Tryd.prog 4 #[.int .i64 node, .slice p n c] w fun e w' => e = .returned (.bool true) ∧ Up w w' := by
  have HT := Lib.hid htab
  clear htab
  by_cases d : 12 < n
  · have d1 : decide ((12 : Int) < (n : Int)) = true := by simp; omega
    clear hno d
    go_enter Tryd.func4, Tryd.ntmps4
    go_wp2_with fail
    refine (sane08_calls _ HT.out).mono ?_
    rintro e w2 ⟨rfl, u2⟩
    have U2 : Hid (Up w w2) := u2
    clear u2
    go_wp2_with fail
    go_ret
    exact ⟨rfl, U2.out⟩
  have d1 : decide ((12 : Int) < (n : Int)) = false := by simp; omega
  by_cases d' : node < 0
  · have d2 : decide (node < 0) = true := by simp; omega
    clear hno d d'
    go_enter Tryd.func4, Tryd.ntmps4
    go_wp2_with fail
    refine (sane08_calls _ HT.out).mono ?_
    rintro e w2 ⟨rfl, u2⟩
    have U2 : Hid (Up w w2) := u2
    clear u2
    go_wp2_with fail
    go_ret
    exact ⟨rfl, U2.out⟩
  have d2 : decide (node < 0) = false := by simp; omega
  have d3 : decide ((24 : Int) ≤ node) = true := by simp; omega
  clear hno d d'
  go_enter Tryd.func4, Tryd.ntmps4
  go_wp2_with fail
  refine (sane08_calls _ HT.out).mono ?_
  rintro e w2 ⟨rfl, u2⟩
  have U2 : Hid (Up w w2) := u2
  clear u2
  go_wp2_with fail
  go_ret
  exact ⟨rfl, U2.out⟩

set_option maxRecDepth 100000 in
set_option maxHeartbeats 4000000 in
theorem built_main (p : Option Addr) (n c : Nat) (node : Int) (L : Nat → List UInt8) (w : World) (hb : BB w p n c L) (htab : Tabs w) (hn : n ≤ 12) (h1 : 0 ≤ node) (h2 : node < 24) :
    Calls Tryd.prog 4 #[.int .i64 node, .slice p n c] w fun e w' => e = .returned (.bool true) ∧ Up w w' := by
  have HT := Lib.hid htab
  have d1 : decide ((12 : Int) < (n : Int)) = false := by simp; omega
  have d2 : decide (node < 0) = false := by simp; omega
  have d3 : decide ((24 : Int) ≤ node) = false := by simp; omega
  have HB := Lib.hid hb
  have hcap := hb.cap
  clear htab hb
  go_enter Tryd.func4, Tryd.ntmps4
  go_wp2_with fail
  refine (sane08_calls _ HT.out).mono ?_
  rintro e w2 ⟨rfl, u2⟩
  have U2 : Hid (Up w w2) := u2
  clear u2
  go_wp2_with fail
  go_loopw [5, 6] (fun v5 v6 wq => ∃ (i : Nat) (p' : Option Addr) (c' : Nat), i ≤ n ∧ v5 = .slice p' i c' ∧ v6 = .int .i64 i ∧ i ≤ c' ∧ c' ≤ maxLen ∧ Hid (∀ j, j < i → (L j).length ≤ 300) ∧ Hid (Links wq p' (bld node L i)) ∧ Hid (Up w wq)) (fun _ v6 _ => n - (intOf v6).toNat)
  case atStart => exact ⟨0, none, 0, by omega, rfl, rfl, by omega, by unfold maxLen; omega, fun j hj => by omega, Links.nil _ _, U2.out⟩
  case round =>
    obtain ⟨i, p', c', hi, rfl, rfl, hc1, hc2, HJ, HL, HU⟩ := hrel
    have hi0 : (0 : Int) ≤ i := by omega
    by_cases hlt : i < n
    case neg =>
      have CK := Lib.hid fun (k : Nat) (hk : k ≤ i) W (hu : Up wr W) => chCheck_calls p' k c' (bld node L k) W (bld_len k).symm (bld_few h1 h2 k (by omega) fun j hj => HJ.out j (by omega)) (by have h := (HL.out.up hu).take k; rw [show i = k + (i - k) by omega, bld_take'] at h; exact h) (HT.out.up (Up.trans HU.out hu)) (by omega) hc2
      have CZ := Lib.hid fun (k : Nat) (hk : k ≤ i) => bld_chk h1 h2 k fun j hj => HJ.out j (by omega)
      have d7 : decide ((i : Int) < (n : Int)) = false := by simp; omega
      go_wp2_with fail
      go_loopw [9] (fun v9 wq => ∃ k : Nat, k ≤ i + 1 ∧ v9 = .int .i64 k ∧ Hid (Up wr wq)) (fun v9 _ => i + 1 - (intOf v9).toNat)
      case atStart => exact ⟨0, by omega, rfl, Up.refl _⟩
      case round =>
        obtain ⟨k, hk, rfl, HV⟩ := hrel
        by_cases hk2 : k ≤ i
        case neg =>
          have d8 : decide ((k : Int) ≤ (i : Int)) = false := by simp; omega
          go_wp2_with fail
          go_ret
          exact ⟨rfl, Up.trans HU.out HV.out⟩
        have d8 : decide ((k : Int) ≤ (i : Int)) = true := by simp; omega
        have C1 := CK.out k hk2 wr HV.out
        rw [CZ.out k hk2] at C1
        have hk0 : (0 : Int) ≤ k := by omega
        have hkc : (k : Int) ≤ c' := by omega
        go_wp2_with fail
        refine C1.mono ?_
        clear C1
        rintro e w9 ⟨rfl, u9⟩
        have U9 := Lib.hid (Up.trans HV.out u9)
        clear u9
        go_wp2_with fail
        exact ⟨⟨k + 1, by omega, by go_num, U9⟩, by simp [intOf]; omega⟩
    obtain ⟨b, o, q, d, rfl, hcell, hld, hdm, hsb⟩ := HB.out.cell i hlt
    have hi1 : (i : Int) < n := by omega
    have hc0 : wr.cell? ⟨b, o + i, none⟩ = some (.slice q (L i).length d) := (HU.out.below.cell (p := ⟨b, o + i, none⟩) (block_lt_of_cell hcell)).trans hcell
    by_cases h3 : (L i).length ≤ 300
    case neg =>
      obtain ⟨li, hli⟩ : ∃ k, k = (L i).length := ⟨_, rfl⟩
      rw [← hli] at hc0 h3
      have d4 : decide ((300 : Int) < (li : Int)) = true := by simp; omega
      go_wp2_with fail
      go_ret
      exact ⟨rfl, HU.out⟩
    have ADD := Lib.hid (add_ok p' q i c' (L i).length d node (bld node L i) (L i) wr (bld_len i).symm rfl (bld_few h1 h2 i (by omega) HJ.out) HL.out (hsb.up HU.out) (HT.out.up HU.out) hc1 hc2 (bld_chk h1 h2 i HJ.out) (bld_arg h1 h2 i h3))
    have FF := Lib.hid (bld_few h1 h2 i (by omega) HJ.out)
    have HSB := Lib.hid hsb
    have H3 := Lib.hid h3
    obtain ⟨li, hli⟩ : ∃ k, k = (L i).length := ⟨_, rfl⟩
    have HLI := Lib.hid hli
    rw [← hli] at hc0 ADD h3
    have d4 : decide ((300 : Int) < (li : Int)) = false := by simp; omega
    have HC0 := Lib.hid hc0
    clear hsb hcell hli hld hdm
    go_wp2_with fail
    refine ADD.out.mono ?_
    clear ADD
    rintro e w4 ⟨p4, c4, rfl, u4, h4, m4, l4⟩
    have U4 : Hid (Up w w4) := Up.trans HU.out u4
    have V4 : Hid (Up wr w4) := u4
    have L4 : Hid (Links w4 p4 (bld node L (i + 1))) := l4
    have M4 := Lib.hid m4
    clear u4 l4 m4 hc0
    go_wp2_with fail
    obtain ⟨b4, o4, rfl, hat⟩ := L4.out (by intro e; have := congrArg List.length e; rw [bld_len] at this; simp at this)
    have la := hat i (by rw [bld_len]; omega)
    rw [bld_get] at la
    have pa := lkAt_prev la
    have na := lkAt_node la
    have oa := lkAt_no la
    obtain ⟨pd, cd, hd34, hsd⟩ := lkAt_data (hd_len (bld node L i)) la
    rw [show (newLk (bld node L i) node (L i)).prev = hd (bld node L i) from rfl] at pa
    rw [show (newLk (bld node L i) node (L i)).node = node from rfl] at na
    rw [show (newLk (bld node L i) node (L i)).no = ((bld node L i).length : Int) from rfl, bld_len] at oa
    rw [show (newLk (bld node L i) node (L i)).data = L i from rfl] at hd34 hsd
    rw [← HLI.out] at hd34
    have hal := hd_len (bld node L i)
    have SM := Lib.hid fun W (hu : Up w4 W) => same_calls (some ⟨b4, o4, none⟩) p' i i c4 c' (bld node L i) (bld node L i) W (bld_len i).symm (bld_len i).symm FF.out FF.out (by have h := (L4.out.up hu).take i; rw [bld_take] at h; exact h) (HL.out.up (Up.trans V4.out hu))
    rw [decide_eq_true rfl] at SM
    have HD := Lib.hid fun W (hu : Up w4 W) => head_calls p' i c' (bld node L i) W (bld_len i).symm FF.out (HL.out.up (Up.trans V4.out hu)) (HT.out.up (Up.trans U4.out hu))
    obtain ⟨A, hA⟩ : ∃ A, A = (u8s (hd (bld node L i))).toArray := ⟨_, rfl⟩
    rw [← hA] at HD
    have hpa : w4.rangeAt b4 (o4 + i * 35 + 2) A.toList := by rw [hA]; exact pa
    have hAs : A.size = 32 := by rw [hA, u8s_arr]; exact hal
    have HAS := Lib.hid hAs
    have eqA : ∀ w : World, (Op.equalIn 10000 35 (.agg A) (.agg A)).run Tryd.prog w = .ok true w := fun w => by rw [hA, run_equalIn_digest 9998 _ _ w hal hal]; simp
    have hu := fun (z : UpW w4.drew) => Up.trans (Up.refl w4).drew z.up
    have R1 := Lib.hid fun (z : UpW w4.drew) => rangeAt_up hpa (hu z)
    have k0 : ∀ z : UpW w4.drew, z.w.cell? ⟨b4, o4 + i * 35, none⟩ = some (.int .i64 node) := fun z => ((hu z).below.cell (p := ⟨b4, o4 + i * 35, none⟩) (block_lt_of_cell na)).trans na
    have k1 : ∀ z : UpW w4.drew, z.w.cell? ⟨b4, o4 + i * 35 + 1, none⟩ = some (.int .i64 i) := fun z => ((hu z).below.cell (p := ⟨b4, o4 + i * 35 + 1, none⟩) (block_lt_of_cell oa)).trans oa
    have k34 : ∀ z : UpW w4.drew, z.w.cell? ⟨b4, o4 + i * 35 + 34, none⟩ = some (.slice pd li cd) := fun z => ((hu z).below.cell (p := ⟨b4, o4 + i * 35 + 34, none⟩) (block_lt_of_cell hd34)).trans hd34
    have kb : ∀ z : UpW w4.drew, z.w.cell? ⟨b, o + i, none⟩ = some (.slice q li d) := fun z => ((Up.trans V4.out (hu z)).below.cell (p := ⟨b, o + i, none⟩) (block_lt_of_cell HC0.out)).trans HC0.out
    obtain ⟨s, hs⟩ : ∃ s, s = bsOf (L i) := ⟨_, rfl⟩
    have hcv : ∀ z : UpW w4.drew, (convert 23 9 (.slice pd li cd)).run Tryd.prog z.w = .ok (.string s) z.w := fun z => by rw [hs, HLI.out]; exact run_text_of z.w pd cd (L i) (hsd.up (hu z))
    have hcw : ∀ z : UpW w4.drew, (convert 23 9 (.slice q li d)).run Tryd.prog z.w = .ok (.string s) z.w := fun z => by rw [hs, HLI.out]; exact run_text_of z.w q d (L i) (HSB.out.up (Up.trans U4.out (hu z)))
    have UX := Lib.hid fun (z : UpW w4.drew) => Up.trans (Up.refl w4).drew z.up
    have hi5 : (i : Int) < ((i + 1 : Nat) : Int) := by omega
    have hi6 : (i : Int) ≤ (c4 : Int) := by omega
    have e1 : ((((i + 1 : Nat)) : Int) != (((i + 1 : Nat)) : Int)) = false := by simp
    haveI := UpW.some_ w4.drew
    clear la pa na oa hd34 hsd hal hpa hAs hA hu hs hat h3 hlt
    refine wp_region_up_k (by kernel_rfl) (by kernel_rfl) ?_
    intro R hR
    repeat (first | ((with_reducible show wpQuiet _ _ _ _ (Oper.mk _ (Op.load _ (Operand.tmp 66)) _ _ _ _ :: _) _); refine wpQuiet_load_arr (by rfl) 35 (.tmp 66) rfl b4 (o4 + i * 35 + 2) (by rfl) A _ (fun w' hw' => by (obtain ⟨z, rfl⟩ := hw'; exact R1.out z)) rfl rfl (by rw [HAS.out]; rfl) ?_) | go_big_quiet_step (fail) | quiet_step ((first | (go_at_call 14; with_reducible exact Calls.quiet_up (SM.out _ (UX.out _))) | (go_at_call 15; with_reducible exact Calls.quiet_up (HD.out _ (UX.out _))))))
    refine wpQuiet_nil (hR _ ?_)
    clear hR R k0 k1 k34 kb hcv hcw eqA
    rintro w5 ⟨z, hz⟩
    have U5 : Hid (Up w w5) := by show Up w w5; rw [hz]; exact Up.trans U4.out (UX.out z)
    have X5 : Hid (Up w4 w5) := by show Up w4 w5; rw [hz]; exact UX.out z
    clear hz
    go_wp2_with fail
    refine ⟨⟨i + 1, some ⟨b4, o4, none⟩, c4, by omega, rfl, by go_num, h4, M4.out, fun j hj => ?_, L4.out.up X5.out, U5⟩, by simp [intOf]; omega⟩
    rcases Nat.lt_or_ge j i with h | h
    · exact HJ.out j h
    · rw [show j = i by omega]; exact H3.out

theorem lawBuilt_calls (p : Option Addr) (n c : Nat) (node : Int) (L : Nat → List UInt8) (w : World) (hb : BB w p n c L) (h0 : Tab0 w) (ht : Tab w) :
    Calls Tryd.prog 4 #[.int .i64 node, .slice p n c] w fun e w' => e = .returned (.bool true) ∧ Up w w' := by
  rcases Classical.em (12 < n ∨ node < 0 ∨ 24 ≤ node) with h | h
  · exact built_early p n c node w ⟨h0, ht⟩ h
  · exact built_main p n c node L w hb ⟨h0, ht⟩ (by omega) (by omega) (by omega)

end Go.Proofs.YtpafambdccejnaaDoor
