/- the law OffersOrder -/
import Derived.Test.YtmifpokafaiebaaDoorOrP
import Derived.Test.YtmifpokafaiebaaDoorLoFur
import Derived.StringKeys
namespace Go.Proofs.YtmifpokafaiebaaDoor
open Go Go.RowKit Go.Maps
set_option linter.unusedVariables false
set_option maxRecDepth 100000

theorem mem_take_succ {α : Type} {l : List α} {i : Nat} (h : i < l.length) {x : α} (hx : x ∈ l.take (i + 1)) : x ∈ l.take i ∨ x = l[i] := by
  rw [List.take_succ_eq_append_getElem h] at hx
  rcases List.mem_append.1 hx with h1 | h1
  · exact .inl h1
  · exact .inr (List.mem_singleton.1 h1)
theorem keyedStr : Keyed Tryd.prog 9 := string_keyed (by kernel_rfl)
theorem keyStr (d : List UInt8) (h : d.length ≤ maxLen) : keyOf Tryd.prog 9 (.string (bsOf d)) = some (.string d) := by
  rw [Go.WideMaps.keyOf_string_mk (by kernel_rfl) (by show (bsOf d).data.size ≤ _; rw [← Array.length_toList, bsOf_list]; exact h), bsOf_list]
theorem zeroStr (w : World) : (zeroValue 9).run Tryd.prog w = .ok (.string ⟨#[]⟩) w := by kernel_rfl

section
variable {α : Type} {enc : α → List Value} {k : Nat} {w : World} {base : Nat} {E : TypeId} {l : List α}
theorem OwnR.take {g n c : Nat} (h : OwnR w base E k enc (.slice (some ⟨g, 0, none⟩) n c) l) (hk : ∀ x ∈ l, (enc x).length = k) (hn : n = l.length) (j : Nat) (hj : j ≤ n) : OwnR w base E k enc (.slice (some ⟨g, 0, none⟩) j c) (l.take j) := by
  have hlen : (l.take j).length = j := by rw [List.length_take]; omega
  have hfl : (fl enc (l.take j)).length = j * k := by rw [fl_len _ (fun x hx => hk x (List.mem_of_mem_take hx)), hlen]
  have hft : (fl enc l).take (j * k) = fl enc (l.take j) := by
    have e : fl enc l = fl enc (l.take j) ++ fl enc (l.drop j) := by rw [← fl_append, List.take_append_drop]
    rw [e, ← hfl]; exact List.take_left
  refine ⟨by rw [hfl, hlen], .inr ?_⟩
  rcases h.2 with ⟨h1, _⟩ | ⟨g', cap, cur, e, hbg, hg, hnc, hcm, hcs, htake⟩
  · cases h1
  · injection e with e1 e2 e3
    injection e1 with e1
    injection e1 with e1
    subst e1 e3
    refine ⟨g, c, cur, by rw [hlen], hbg, hg, by rw [hlen]; omega, hcm, hcs, ?_⟩
    rw [hlen, ← hft, ← htake, List.take_take, Nat.min_eq_left (Nat.mul_le_mul_right k (by omega))]
end
theorem Below.size' {base : Nat} {A B : World} (h : Below base A B) (hb : base ≤ A.heap.size) : base ≤ B.heap.size := Nat.le_trans hb h.size

set_option maxHeartbeats 64000000 in
theorem lawOrd_calls (p q : Option Addr) (n c m d : Nat) (sls : List SlA) (xs : List OpA) (ord : List UInt8) (op : Option Addr) (oc : Nat) (w : World) (hn : n = sls.length) (hm : m = xs.length) (hc : n ≤ c) (hcm : c ≤ maxLen) (hd : m ≤ d) (hdm : d ≤ maxLen)
    (hr : RowAt w p 2 slCells sls) (hsl : ∀ s ∈ sls, SlAt w s) (hx : RowAt w q 7 opCells xs) (hxa : ∀ x ∈ xs, OpAt w x) (hsb : SB w op ord) (hol : ord.length ≤ oc) (hocm : oc ≤ maxLen) (t0 : Tab0 w) (t1 : Tab w) :
    Calls Tryd.prog 8 #[.slice p n c, .slice q m d, .slice op ord.length oc] w fun e w' => e = .returned (.bool true) ∧ Up w w' := by
  have HT : Hid (Tabs w) := ⟨t0, t1⟩
  have SN := Lib.hid fun W (hu : Up w W) => sane44_calls W (HT.out.up hu)
  have FW := Lib.hid fun W (hu : Up w W) => rfew_calls p q n c m d sls xs W hn hm hc hcm hd hdm (hr.kept2 hu) (hx.kept2 hu)
  have RP := Lib.hid fun W (hu : Up w W) => reveal_calls p q n c m d sls xs W hn hm hc hcm hd hdm (hr.kept2 hu) (fun s hs => (hsl s hs).up hu) (hx.kept2 hu) (fun x hx => (hxa x hx).up hu) (HT.out.up hu)
  have RQ : Hid (∀ W (hu : Up w W) (q' : Option Addr) (d' : Nat) (ys : List OpA), xs.Perm ys → NoClash xs → m ≤ d' → d' ≤ maxLen → RowAt W q' 7 opCells ys → Calls Tryd.prog 19 #[.slice p n c, .slice q' m d'] W (RetR W (revO sls xs) (revS sls xs) (revE sls xs))) := fun W hu q' d' ys hp hcl h1 h2 h3 => by
    have := reveal_calls p q' n c m d' sls ys W hn (by rw [hm, hp.length_eq]) hc hcm h1 h2 (hr.kept2 hu) (fun s hs => (hsl s hs).up hu) h3 (fun y hy => (hxa y (hp.mem_iff.2 hy)).up hu) (HT.out.up hu)
    obtain ⟨e1, e2, e3⟩ := ord_plain sls hp hcl
    rwa [e1, e2, e3] at this
  have FL : Hid (fewB sls xs = true → n ≤ 100) := fun h => by have := (few_len h).1; omega
  have HX := Lib.hid hx
  have HXA := Lib.hid hxa
  have LN := Lib.hid (And.intro (revO_len sls xs) (revS_len sls xs))
  rw [← hn] at LN
  obtain ⟨fw, hfw⟩ : ∃ fw, fw = fewB sls xs := ⟨_, rfl⟩
  rw [← hfw] at FW FL
  obtain ⟨nl, hnl⟩ : ∃ nl, nl = (revO sls xs).length := ⟨_, rfl⟩
  obtain ⟨ns, hns⟩ : ∃ ns, ns = (revS sls xs).length := ⟨_, rfl⟩
  obtain ⟨ee, hee⟩ : ∃ ee, ee = revE sls xs := ⟨_, rfl⟩
  obtain ⟨on, hon⟩ : ∃ on, on = ord.length := ⟨_, rfl⟩
  rw [← hnl, ← hns] at LN
  rw [← hee] at RP RQ
  rw [← hon] at hol ⊢
  have HNL := Lib.hid hnl
  have HNS := Lib.hid hns
  have HM := Lib.hid hm
  have HON := Lib.hid hon
  have HSB := Lib.hid hsb
  have HOL : Hid (on ≤ 9223372036854775807) := by have : on ≤ maxLen := Nat.le_trans hol hocm; unfold maxLen at this; show on ≤ _; omega
  have hmm := @run_makeMap Tryd.prog
  clear hfw hnl hns hee hn hm hr hsl hx hxa t0 t1 hc hcm hon hsb hol hocm
  go_enter Tryd.func8, Tryd.ntmps8
  go_wp2_with fail
  refine (SN.out w (Up.refl w)).mono ?_
  rintro e W2 ⟨rfl, u2⟩
  have U2 := Lib.hid u2
  clear u2 SN
  go_wp2_with fail
  refine (FW.out W2 U2.out).mono ?_
  rintro e W3 ⟨rfl, u3⟩
  have U3 : Hid (Up w W3) := Up.trans U2.out u3
  clear u3 FW U2
  cases fw
  case false =>
    go_wp2_with fail
    go_ret
    exact ⟨rfl, U3.out⟩
  have hn1 : n ≤ 100 := FL.out (by first | rfl | trivial)
  clear FL
  by_cases hm20 : m ≤ 20
  case neg =>
    have d1 : decide ((20 : Int) < (m : Int)) = true := by simp; omega
    clear hm20
    go_wp2_with fail
    go_ret
    exact ⟨rfl, U3.out⟩
  have d1 : decide ((20 : Int) < (m : Int)) = false := by simp; omega
  go_wp2_with fail
  refine wp_named ?_
  intro W4 hW4
  obtain ⟨b7, hb7⟩ : ∃ b, b = W3.heap.size := ⟨_, rfl⟩
  rw [← hb7]
  have u4 : Up W3 W4 := by rw [hW4]; exact (Up.refl W3).alloc _
  have m4 : MapL W4 9 b7 0 (strF []) := by rw [← strF_nil, hW4, hb7]; exact MapL.made W3 9
  have U4 : Hid (Up w W4) := Up.trans U3.out u4
  have M4 := Lib.hid m4
  have HB7 : Hid (w.heap.size ≤ b7) := by show _ ≤ _; rw [hb7]; exact U3.out.size
  clear hW4 u4 m4 hb7 U3 d1
  go_loopw [40] (fun v40 wq => ∃ i : Nat, ∃ L : List (List UInt8 × List UInt8), i ≤ m ∧ v40 = .int .i64 i ∧ Hid (Up w wq) ∧ Hid (MapL wq 9 b7 i (strF L)) ∧ Hid (OneMsg L) ∧ Hid (∀ x ∈ xs.take i, msgE x.a.o x.salt = 0 → (cmtB x.a.o x.salt, encMsg x.a.o x.salt) ∈ L)) (fun v40 _ => m - (intOf v40).toNat)
  case atStart => exact ⟨0, [], by omega, rfl, U4.out, M4.out, (fun _ _ _ h => by cases h), (fun x h => by simp at h)⟩
  case round =>
    obtain ⟨i, L, hi, rfl, HU, HMP, HOM, HSUB⟩ := hrel
    by_cases hlt : i < m
    case neg =>
      have NC : Hid (NoClash xs) := by
        intro x hx y hy h1 h2 h3
        have e : xs.take i = xs := List.take_of_length_le (by rw [← HM.out]; omega)
        have a1 := HSUB.out x (by rw [e]; exact hx) h1
        have a2 := HSUB.out y (by rw [e]; exact hy) h2
        rw [h3] at a1
        exact HOM.out _ _ _ a1 a2
      have HXW := Lib.hid (HX.out.kept2 HU.out)
      obtain ⟨Wl, hWl⟩ : ∃ W, W = wr := ⟨_, rfl⟩
      subst hWl
      clear HSUB HOM HMP M4 U4 hi HT hmm HXA HX
      go_wp2_with (refine wpList_named ?_; intro W1 hW1; at_builtin; (have hu : Up Wl W1 := by (rw [hW1]; exact (Up.refl Wl).alloc _)); (have ho : OwnR W1 Wl.heap.size 44 7 opCells (.slice (some ⟨Wl.heap.size, 0, none⟩) 0 0) [] := by (rw [hW1]; exact OwnR.empty Wl)); have HU1 := Lib.hid hu; have HO := Lib.hid ho; clear hW1 hu ho; refine wpList_appR rfl (.tmp 86) (.tmp 87) eltOpen (by omega) rfl rfl Wl.heap.size _ [] q m d xs rfl rfl HM.out (fun x _ => opCells_len x) (fun x _ => opCells_one x) HO.out (HXW.out.kept2 HU1.out) (by rw [← HM.out]; simp; omega) HU1.out.size ?_; intro q1 m1 c1 W2 o2 b2 g2; rw [List.nil_append] at o2; obtain ⟨p8, c8, e8, h81, h82, h83, h84⟩ := o2.form (fun x _ => opCells_len x); injection e8 with e1 e2 e3; subst e1 e3; rw [← HM.out] at e2; (have e5 := e2.symm); subst e5; have O2 := Lib.hid o2; have U2 : Hid (Up Wl W2) := (Below.trans HU1.out b2); clear o2 b2 g2 h81 h82 h83 h84)
      obtain ⟨bz, hbz⟩ : ∃ b, b = Wl.heap.size := ⟨_, rfl⟩
      rw [← hbz] at O2
      have BZ2 : Hid (Below bz Wl W2) := Up.below2 U2.out (by rw [hbz]; exact Nat.le_refl _)
      have HBZ : Hid (Wl.heap.size = bz) := hbz.symm
      have ON0 : Hid (OwnR W2 bz 44 7 opCells (.slice none 0 0) ([] : List OpA)) := OwnR.nil
      clear hbz HXW HO HU1 U2 hlt
      go_loopw [16, 17, 18] (fun v16 v17 v18 wq => ∃ (L T : List OpA) (i l c1 : Nat) (q1 : Option Addr), v18 = .int .i64 i ∧ v16 = .slice q1 l c1 ∧ i + l = m ∧ l = L.length ∧ Hid (xs.Perm (T ++ L)) ∧ Hid (OwnR wq bz 44 7 opCells (.slice q1 l c1) L) ∧ Hid (OwnR wq bz 44 7 opCells v17 T) ∧ Hid (∀ g, v17.ownBlock = some g → (Value.slice q1 l c1).ownBlock ≠ some g) ∧ Hid (Below bz Wl wq)) (fun _ _ v18 _ => m - (intOf v18).toNat)
      case atStart => exact ⟨xs, [], 0, m, c1, q1, rfl, rfl, by omega, HM.out, List.Perm.refl _, O2.out, ON0.out, (fun g h => by cases h), BZ2.out⟩
      case round =>
        obtain ⟨L, T, i, l, c1, q1, rfl, rfl, hil, hlL, HP, HL, HTT, HSEP, HB⟩ := hrel
        obtain ⟨ii, zz, hii, hzz, hi1, hi2, hi3⟩ := eltOpen.info
        have HII := Lib.hid hii
        have HZZ := Lib.hid hzz
        have HI1 := Lib.hid hi1
        have HLL := Lib.hid hlL
        have UR : Hid (Up w wr) := Below.trans HU.out (HB.out.mono (by rw [← HBZ.out]; exact HU.out.size))
        clear hii hzz hi1 hi2 hi3 hlL O2 ON0 BZ2 HU
        by_cases hl0 : l = 0
        case pos =>
          subst hl0
          have hL : L = [] := List.eq_nil_of_length_eq_zero HLL.out.symm
          obtain ⟨q2, c2, e2, h21, h22, h23, -⟩ := HTT.out.form (fun x _ => opCells_len x)
          have hTl : T.length = m := by have := HP.out.length_eq; rw [hL] at this; simp at this; rw [← this]; exact HM.out.symm
          rw [hTl] at e2 h21
          subst e2
          have HP2 : Hid (xs.Perm T) := by have := HP.out; rw [hL, List.append_nil] at this; exact this
          have HROW := Lib.hid h23
          have hi0 : i = m := by omega
          clear hL hTl HP HL HTT HSEP HLL HII HZZ HI1 h23
          go_wp2_with fail
          refine (RP.out wr UR.out).mono ?_
          intro e W5 hR
          obtain ⟨p1, k1, q1', j1, A1, he, r1⟩ := hR.lit HNL.out.symm HNS.out.symm
          subst he
          have U5 : Hid (Up w W5) := Up.trans UR.out r1.up
          have R1 := Lib.hid r1
          have RW5 := Lib.hid (HROW.out.kept2 r1.up)
          clear hR r1 HROW
          go_wp2_with fail
          refine (RQ.out W5 U5.out q2 c2 T HP2.out NC.out h21 h22 RW5.out).mono ?_
          intro e We hR
          obtain ⟨p2, k2, q2', j2, A2, he, r2⟩ := hR.lit HNL.out.symm HNS.out.symm
          subst he
          have UE : Hid (Up w We) := Up.trans U5.out r2.up
          have R1E := Lib.hid (R1.out.kept r2.up)
          have R2E := Lib.hid r2
          have e1 : (ee == ee) = true := by simp
          clear hR r2 U5 R1 RW5
          go_wp2_with fail
          refine (rsameAll_calls p1 p2 nl nl k1 k2 A1 A2 We R1E.out.len.symm R2E.out.len.symm (by have := LN.out.1; omega) R1E.out.c1 R1E.out.c2 R2E.out.c1 R2E.out.c2 R1E.out.row R2E.out.row (fun a ha => ⟨R1E.out.lts a ha, R1E.out.lots a ha⟩) R2E.out.lts).mono ?_
          rintro e Wf ⟨he, u3⟩
          rw [decide_eq_true (R1E.out.eq.trans R2E.out.eq.symm)] at he
          subst he
          have UF : Hid (Up w Wf) := Up.trans UE.out u3
          have R1F := Lib.hid (R1E.out.kept u3)
          have R2F := Lib.hid (R2E.out.kept u3)
          clear u3 R1E R2E UE
          go_wp2_with fail
          refine (rsameNumbers_calls q1' q2' ns ns j1 j2 (revS sls xs) (revS sls xs) Wf HNS.out HNS.out (by have := LN.out.2; omega) R1F.out.d1 R1F.out.d2 R2F.out.d1 R2F.out.d2 R1F.out.row2 R2F.out.row2).mono ?_
          rintro e Wg ⟨he, u4⟩
          rw [decide_eq_true rfl] at he
          subst he
          have UG : Hid (Up w Wg) := Up.trans UF.out u4
          clear u4 R1F R2F UF
          go_wp2_with fail
          go_ret
          exact ⟨rfl, UG.out⟩
        have hlt : decide ((0 : Int) < (l : Int)) = true := by simp; omega
        have hlt' : 0 < l := by omega
        obtain ⟨g, c9, cur, e9, hbg, hgc, -, hcm9, -, -⟩ := HL.out.form2 (by rintro rfl; simp [HLL.out] at hl0)
        injection e9 with e1 e2 e3
        subst e1 e3
        clear e2
        have hlc : l ≤ c1 := by
          obtain ⟨_, _, e, h1, _⟩ := HL.out.form (fun x _ => opCells_len x)
          injection e with e1 e2 e3; omega
        unfold maxLen at hcm9
        have HG : Hid (RowAt wr (some ⟨g, 0, none⟩) 7 opCells L) := by
          obtain ⟨_, _, e, -, -, h1, _⟩ := HL.out.form (fun x _ => opCells_len x)
          injection e with e1 e2 e3; subst e1; exact h1
        have HGL : Hid (g < wr.heap.size) := lt_of_block hgc
        have HON2 : Hid (∀ j, (Value.slice (some ⟨g, 0, none⟩) j c1).ownBlock = some g) := fun _ => rfl
        clear hgc hbg hl0
        by_cases hio : i < on
        case pos =>
          have hb := HSB.out (by have := HON.out; rintro rfl; simp at this; omega)
          obtain ⟨bo, oo, rfl, hbs⟩ := hb
          have hcl := cell_up (hbs i (by rw [← HON.out]; exact hio)) UR.out
          obtain ⟨bt, hbt⟩ : ∃ bt, bt = (ord[i]'(by rw [← HON.out]; exact hio)).toNat := ⟨_, rfl⟩
          have hbt2 : bt < 256 := by rw [hbt]; exact UInt8.toNat_lt _
          rw [← hbt] at hcl
          obtain ⟨k, hkk⟩ : ∃ k, k = bt % l := ⟨_, rfl⟩
          have hkn : k < l := by rw [hkk]; exact Nat.mod_lt _ hlt'
          have em : ((bt : Int)).tmod (l : Int) = (k : Nat) := by rw [hkk, Int.ofNat_tmod]
          have em2 : ((bt : Int)) % (l : Int) = (k : Nat) := by rw [hkk]; simp
          clear hbs hbt hkk
          obtain ⟨y, hy⟩ : ∃ y, y = L[k]'(by rw [← HLL.out]; exact hkn) := ⟨_, rfl⟩
          have hkL : k < L.length := by rw [← HLL.out]; exact hkn
          have HRG : Hid (wr.rangeAt g (k * 7) (opCells y).toArray.toList) := by
            obtain ⟨b', o', e', h'⟩ := HG.out (by rintro rfl; simp at hkL)
            injection e' with e'; injection e' with e1 e2; subst e1 e2
            have := h' k hkL
            show wr.rangeAt _ _ _
            rw [hy]; simpa using this
          have HPN : Hid (xs.Perm ((T ++ [y]) ++ (L.take k ++ L.drop (k + 1)))) := by
            have e : L = L.take k ++ y :: L.drop (k + 1) := by rw [hy, ← List.drop_eq_getElem_cons hkL, List.take_append_drop]
            refine HP.out.trans ?_
            conv => lhs; rw [e]
            rw [List.append_assoc]
            exact (List.perm_middle).append_left T
          have HTK : Hid (∀ W, OwnR W bz 44 7 opCells (.slice (some ⟨g, 0, none⟩) l c1) L → OwnR W bz 44 7 opCells (.slice (some ⟨g, 0, none⟩) k c1) (L.take k)) := fun W h => h.take (fun x _ => opCells_len x) HLL.out k (by omega)
          obtain ⟨YX, hYX⟩ : ∃ A, A = (opCells y).toArray := ⟨_, rfl⟩
          have HYs : Hid (YX.size = 7) := by show YX.size = 7; rw [hYX]; rfl
          have HYX := Lib.hid hYX
          rw [← hYX] at HRG
          have HTL : Hid (T.length ≤ 20) := by have := HP.out.length_eq; rw [List.length_append, ← HM.out] at this; show _ ≤ _; omega
          clear hy hkL HP hYX
          go_wp2_with (first | ((with_reducible show wpList _ _ _ (Oper.mk _ (Op.load _ (Operand.tmp 109)) _ _ _ _ :: _) _ _); refine wpList_load_arr rfl 44 (.tmp 109) rfl g (k * 7) rfl YX _ HRG.out rfl rfl (by rw [HYs.out]; rfl) ?_) | ((with_reducible show wpList _ _ _ (Oper.mk _ (Op.buildSlice _ _ _) _ _ _ _ :: _) _ _); refine wpList_buildSlice rfl 35 44 1 #[(0, .tmp 110)] rfl YX ii zz rfl HII.out HZZ.out (by rw [HI1.out]; decide) (by rw [HI1.out]; decide) (by (simp only [List.map_toArray, List.map_cons, List.map_nil]; exact fill_row (zz := zz) HI1.out (by omega) YX HYs.out)) ?_; refine wpList_named ?_; intro W8 hW8; (have u8 : Up wr W8 := by (rw [hW8]; exact (Up.refl wr).alloc _)); (have r8 : RowAt W8 (some ⟨wr.heap.size, 0, none⟩) 7 opCells [y] := rowAt_block (D := YX) (fun _ _ => rfl) (by (rw [HYX.out]; simp [fl])) (by (rw [hW8]; exact heap_new rfl))); have U8 := Lib.hid u8; have R8 := Lib.hid r8; clear hW8 u8 r8) | (at_builtin; refine wpList_appR rfl (.tmp 106) (.tmp 111) eltOpen (by omega) rfl rfl bz _ T _ 1 1 [y] rfl rfl rfl (fun x _ => opCells_len x) (fun x _ => opCells_one x) (HTT.out.up U8.out) R8.out (by have := HTL.out; simp; omega) (Nat.le_trans (Below.size' HB.out (by rw [HBZ.out]; exact Nat.le_refl _)) U8.out.size) ?_; intro p9 m9 d9 W9 o9 b9 g9; have O9 := Lib.hid o9; have B9 : Hid (Below bz Wl W9) := ((HB.out.trans (Up.below2 U8.out (Below.size' HB.out (by rw [HBZ.out]; exact Nat.le_refl _)))).trans b9); have B89 : Hid (W9.heap[g]? = wr.heap[g]?) := ((g9.block (Nat.lt_of_lt_of_le HGL.out U8.out.size) (fun h => HSEP.out g h (HON2.out l))).trans (U8.out.block _ HGL.out)); have S9 : Hid (∀ j, ∀ g', (Value.slice p9 m9 d9).ownBlock = some g' → (Value.slice (some ⟨g, 0, none⟩) j c1).ownBlock ≠ some g') := (fun j g' h e => (g9.own g' h).elim (fun h1 => HSEP.out g' h1 ((HON2.out l).trans ((HON2.out j).symm.trans e))) (fun h1 => absurd (Nat.lt_of_lt_of_le HGL.out U8.out.size) (Nat.not_lt.2 (by (have e2 := (HON2.out j).symm.trans e); injection e2 with e2; rw [e2]; exact h1)))); clear o9 b9 g9))
          have L9 : Hid (OwnR W9 bz 44 7 opCells (.slice (some ⟨g, 0, none⟩) l c1) L) := HL.out.kept fun g' h => by
            have e := (HON2.out l).symm.trans h; injection e with e; subst e; exact B89.out
          have G9 : Hid (RowAt W9 (some ⟨g, 0, none⟩) 7 opCells L) := HG.out.kept fun b o e => by
            injection e with e; injection e with e1 e2; subst e1; exact B89.out
          clear HL HG HTT HSEP HB B89 HRG U8 R8 HII HZZ HI1 HYs HYX HTL
          refine wp_region_scr_at (.still 0 (.still 1 (.still 2 (.still 3 (.still 4 (.still 5 (.still 6 (.one 7 (.still 8 .nil))))))))) (by kernel_rfl) (by kernel_rfl) (fun _ _ d _ _ h => by cases d <;> exact h) ?_
          intro W6 u6 hW6
          have B6 : Hid (Below bz Wl W6) := B9.out.trans (Up.below2 u6 (Below.size' B9.out (by rw [HBZ.out]; exact Nat.le_refl _)))
          have L6 := Lib.hid (HTK.out W6 (L9.out.up u6))
          have T6 := Lib.hid (O9.out.up u6)
          have G6 := Lib.hid (G9.out.kept2 u6)
          clear u6 hW6 L9 O9 G9 B9 HTK
          have hkc : k ≤ c1 := by omega
          have hk1 : k + 1 ≤ l := by omega
          have ekw : IntKind.i64.wrap ((k : Int) + 1) = ((k + 1 : Nat) : Int) := IntWalk.i64_in _ (by omega)
          have ecd : 0 ≤ IntKind.i64.wrap ((k : Int) + 1) ∧ IntKind.i64.wrap ((k : Int) + 1) ≤ (l : Int) := by rw [ekw]; omega
          obtain ⟨pp, hpp⟩ : ∃ pp : Option Addr, pp = (if c1 = k + 1 then some ⟨g, 0, none⟩ else some ⟨g, (k + 1) * 7, none⟩) := ⟨_, rfl⟩
          have HPQ := Lib.hid hpp
          have HPP : Hid (RowAt W6 pp 7 opCells (L.drop (k + 1))) := by
            by_cases h : c1 = k + 1
            · have e : L.drop (k + 1) = [] := List.drop_of_length_le (by rw [← HLL.out]; omega)
              show RowAt _ _ _ _ _
              rw [e]; exact RowAt.nil _ _
            · rw [if_neg h] at hpp
              rw [hpp]
              have := G6.out.drop (k + 1); rw [Nat.zero_add] at this; exact this
          clear hpp
          refine ⟨fun W' => Below bz W6 W', Below.refl _ _, ?_⟩
          haveI : Nonempty (InC (fun W' => Below bz W6 W')) := ⟨⟨W6, Below.refl _ _⟩⟩
          refine wpScr_still rfl (fun K hK => ?_); go_simp; refine hK _ ?_; clear hK K
          refine wpScr_still rfl (fun K hK => ?_); go_simp; refine hK _ ?_; clear hK K
          refine wpScr_still rfl (fun K hK => ?_)
          go_simp
          first | (refine hK _ ?_) | (refine ⟨.slice (some ⟨g, 0, none⟩) k c1, fun a => by rw [if_pos hkc]; exact ⟨rfl, rfl⟩, ?_⟩; refine hK _ ?_)
          clear hK K
          refine wpScr_still rfl (fun K hK => ?_); go_simp; refine hK _ ?_; clear hK K
          refine wpScr_still rfl (fun K hK => ?_); go_simp; refine hK _ ?_; clear hK K
          refine wpScr_still rfl (fun K hK => ?_); go_simp; refine hK _ ?_; clear hK K
          refine wpScr_still rfl (fun K hK => ?_)
          go_simp
          refine ⟨.slice pp (l - (k + 1)) (c1 - (k + 1)), fun a => ?q, ?_⟩
          case q =>
            rw [if_pos (by omega)]
            refine ⟨rfl, ?_⟩
            rw [HPQ.out]
            try rfl
          refine hK _ ?_
          clear hK K

          refine stepScr_want rfl rfl (fun K hK => ?_)
          refine wp_appR (.tmp 115) (.tmp 119) eltOpen (by omega) rfl rfl bz _ (L.take k) pp (l - (k + 1)) (c1 - (k + 1)) (L.drop (k + 1)) rfl rfl ?x0 (fun x _ => opCells_len x) (fun x _ => opCells_one x) ?x1 ?x2 ?x3 ?x4 ?_
          case x0 => rw [List.length_drop, ← HLL.out]
          case x1 => exact L6.out
          case x2 => exact HPP.out
          case x3 => rw [List.length_drop, List.length_take, ← HLL.out]; omega
          case x4 => exact (Below.size' B6.out (by rw [HBZ.out]; exact Nat.le_refl _))
          intro p7 m7 d7 W7 o7 b7' g7
          obtain ⟨p8, c8, e8, h81, h82, h83, -⟩ := o7.form (fun x _ => opCells_len x)
          injection e8 with e1 e2 e3
          subst e1 e3
          have e4 : l - 1 = m7 := by rw [e2, List.length_append, List.length_drop, List.length_take, ← HLL.out]; omega
          subst e4
          have T7 : Hid (OwnR W7 bz 44 7 opCells (.slice p9 m9 d9) (T ++ [y])) := T6.out.kept fun g' h => g7.block (T6.out.lt g' h) (fun e => S9.out k g' h e)
          have S7 : Hid (∀ g', (Value.slice p9 m9 d9).ownBlock = some g' → (Value.slice p7 (l - 1) d7).ownBlock ≠ some g') := fun g' h e => by
            rcases g7.own g' e with h1 | h1
            · exact S9.out k g' h h1
            · exact absurd (T6.out.lt g' h) (Nat.not_lt.2 h1)
          have L7 := Lib.hid o7
          have B7 : Hid (Below bz Wl W7) := B6.out.trans b7'
          have E7 : Hid (l - 1 = (L.take k ++ L.drop (k + 1)).length) := e2
          refine hK _ _ (inC b7') ?_
          clear hK K o7 b7' g7 h81 h82 h83 L6 T6 G6 S9 e2 B6
          refine wpScr_still rfl (fun K hK => ?_); go_simp; refine hK _ ?_; clear hK K
          refine wpScr_nil ?_
          go_wp2_with fail
          exact ⟨⟨L.take k ++ L.drop (k + 1), T ++ [y], i + 1, l - 1, d7, p7, by go_num, rfl, by omega, E7.out, HPN.out, L7.out, T7.out, S7.out, B7.out⟩, by simp [intOf]; omega⟩
        case neg =>
          obtain ⟨k, hk0⟩ : ∃ k : Nat, k = 0 := ⟨_, rfl⟩
          have hkn : k < l := by rw [hk0]; exact hlt'
          subst hk0
          obtain ⟨y, hy⟩ : ∃ y, y = L[0]'(by rw [← HLL.out]; exact hlt') := ⟨_, rfl⟩
          have hkL : 0 < L.length := by rw [← HLL.out]; exact hlt'
          have HRG : Hid (wr.rangeAt g (0) (opCells y).toArray.toList) := by
            obtain ⟨b', o', e', h'⟩ := HG.out (by rintro rfl; simp at hkL)
            injection e' with e'; injection e' with e1 e2; subst e1 e2
            have := h' 0 hkL
            show wr.rangeAt _ _ _
            rw [hy]; simpa using this
          have HPN : Hid (xs.Perm ((T ++ [y]) ++ (L.take 0 ++ L.drop (0 + 1)))) := by
            have e : L = L.take 0 ++ y :: L.drop (0 + 1) := by rw [hy, ← List.drop_eq_getElem_cons hkL, List.take_append_drop]
            refine HP.out.trans ?_
            conv => lhs; rw [e]
            rw [List.append_assoc]
            exact (List.perm_middle).append_left T
          have HTK : Hid (∀ W, OwnR W bz 44 7 opCells (.slice (some ⟨g, 0, none⟩) l c1) L → OwnR W bz 44 7 opCells (.slice (some ⟨g, 0, none⟩) 0 c1) (L.take 0)) := fun W h => h.take (fun x _ => opCells_len x) HLL.out 0 (by omega)
          obtain ⟨YX, hYX⟩ : ∃ A, A = (opCells y).toArray := ⟨_, rfl⟩
          have HYs : Hid (YX.size = 7) := by show YX.size = 7; rw [hYX]; rfl
          have HYX := Lib.hid hYX
          rw [← hYX] at HRG
          have HTL : Hid (T.length ≤ 20) := by have := HP.out.length_eq; rw [List.length_append, ← HM.out] at this; show _ ≤ _; omega
          clear hy hkL HP hYX
          go_wp2_with (first | ((with_reducible show wpList _ _ _ (Oper.mk _ (Op.load _ (Operand.tmp 109)) _ _ _ _ :: _) _ _); refine wpList_load_arr rfl 44 (.tmp 109) rfl g (0) rfl YX _ HRG.out rfl rfl (by rw [HYs.out]; rfl) ?_) | ((with_reducible show wpList _ _ _ (Oper.mk _ (Op.buildSlice _ _ _) _ _ _ _ :: _) _ _); refine wpList_buildSlice rfl 35 44 1 #[(0, .tmp 110)] rfl YX ii zz rfl HII.out HZZ.out (by rw [HI1.out]; decide) (by rw [HI1.out]; decide) (by (simp only [List.map_toArray, List.map_cons, List.map_nil]; exact fill_row (zz := zz) HI1.out (by omega) YX HYs.out)) ?_; refine wpList_named ?_; intro W8 hW8; (have u8 : Up wr W8 := by (rw [hW8]; exact (Up.refl wr).alloc _)); (have r8 : RowAt W8 (some ⟨wr.heap.size, 0, none⟩) 7 opCells [y] := rowAt_block (D := YX) (fun _ _ => rfl) (by (rw [HYX.out]; simp [fl])) (by (rw [hW8]; exact heap_new rfl))); have U8 := Lib.hid u8; have R8 := Lib.hid r8; clear hW8 u8 r8) | (at_builtin; refine wpList_appR rfl (.tmp 106) (.tmp 111) eltOpen (by omega) rfl rfl bz _ T _ 1 1 [y] rfl rfl rfl (fun x _ => opCells_len x) (fun x _ => opCells_one x) (HTT.out.up U8.out) R8.out (by have := HTL.out; simp; omega) (Nat.le_trans (Below.size' HB.out (by rw [HBZ.out]; exact Nat.le_refl _)) U8.out.size) ?_; intro p9 m9 d9 W9 o9 b9 g9; have O9 := Lib.hid o9; have B9 : Hid (Below bz Wl W9) := ((HB.out.trans (Up.below2 U8.out (Below.size' HB.out (by rw [HBZ.out]; exact Nat.le_refl _)))).trans b9); have B89 : Hid (W9.heap[g]? = wr.heap[g]?) := ((g9.block (Nat.lt_of_lt_of_le HGL.out U8.out.size) (fun h => HSEP.out g h (HON2.out l))).trans (U8.out.block _ HGL.out)); have S9 : Hid (∀ j, ∀ g', (Value.slice p9 m9 d9).ownBlock = some g' → (Value.slice (some ⟨g, 0, none⟩) j c1).ownBlock ≠ some g') := (fun j g' h e => (g9.own g' h).elim (fun h1 => HSEP.out g' h1 ((HON2.out l).trans ((HON2.out j).symm.trans e))) (fun h1 => absurd (Nat.lt_of_lt_of_le HGL.out U8.out.size) (Nat.not_lt.2 (by (have e2 := (HON2.out j).symm.trans e); injection e2 with e2; rw [e2]; exact h1)))); clear o9 b9 g9))
          have L9 : Hid (OwnR W9 bz 44 7 opCells (.slice (some ⟨g, 0, none⟩) l c1) L) := HL.out.kept fun g' h => by
            have e := (HON2.out l).symm.trans h; injection e with e; subst e; exact B89.out
          have G9 : Hid (RowAt W9 (some ⟨g, 0, none⟩) 7 opCells L) := HG.out.kept fun b o e => by
            injection e with e; injection e with e1 e2; subst e1; exact B89.out
          clear HL HG HTT HSEP HB B89 HRG U8 R8 HII HZZ HI1 HYs HYX HTL
          refine wp_region_scr_at (.still 0 (.still 1 (.still 2 (.still 3 (.still 4 (.still 5 (.still 6 (.one 7 (.still 8 .nil))))))))) (by kernel_rfl) (by kernel_rfl) (fun _ _ d _ _ h => by cases d <;> exact h) ?_
          intro W6 u6 hW6
          have B6 : Hid (Below bz Wl W6) := B9.out.trans (Up.below2 u6 (Below.size' B9.out (by rw [HBZ.out]; exact Nat.le_refl _)))
          have L6 := Lib.hid (HTK.out W6 (L9.out.up u6))
          have T6 := Lib.hid (O9.out.up u6)
          have G6 := Lib.hid (G9.out.kept2 u6)
          clear u6 hW6 L9 O9 G9 B9 HTK
          have hkc : 0 ≤ c1 := by omega
          have hk1 : 0 + 1 ≤ l := by omega
          have ekw : IntKind.i64.wrap 1 = ((0 + 1 : Nat) : Int) := IntWalk.i64_in _ (by omega)
          have ecd : 0 ≤ IntKind.i64.wrap 1 ∧ IntKind.i64.wrap 1 ≤ (l : Int) := by rw [ekw]; omega
          obtain ⟨pp, hpp⟩ : ∃ pp : Option Addr, pp = (if c1 = 0 + 1 then some ⟨g, 0, none⟩ else some ⟨g, (0 + 1) * 7, none⟩) := ⟨_, rfl⟩
          have HPQ := Lib.hid hpp
          have HPP : Hid (RowAt W6 pp 7 opCells (L.drop (0 + 1))) := by
            by_cases h : c1 = 0 + 1
            · have e : L.drop (0 + 1) = [] := List.drop_of_length_le (by rw [← HLL.out]; omega)
              show RowAt _ _ _ _ _
              rw [e]; exact RowAt.nil _ _
            · rw [if_neg h] at hpp
              rw [hpp]
              have := G6.out.drop (0 + 1); rw [Nat.zero_add] at this; exact this
          clear hpp
          refine ⟨fun W' => Below bz W6 W', Below.refl _ _, ?_⟩
          haveI : Nonempty (InC (fun W' => Below bz W6 W')) := ⟨⟨W6, Below.refl _ _⟩⟩
          refine wpScr_still rfl (fun K hK => ?_); go_simp; refine hK _ ?_; clear hK K
          refine wpScr_still rfl (fun K hK => ?_); go_simp; refine hK _ ?_; clear hK K
          refine wpScr_still rfl (fun K hK => ?_)
          go_simp
          first | (refine hK _ ?_) | (refine ⟨.slice (some ⟨g, 0, none⟩) 0 c1, fun a => by rw [if_pos hkc]; exact ⟨rfl, rfl⟩, ?_⟩; refine hK _ ?_)
          clear hK K
          refine wpScr_still rfl (fun K hK => ?_); go_simp; refine hK _ ?_; clear hK K
          refine wpScr_still rfl (fun K hK => ?_); go_simp; refine hK _ ?_; clear hK K
          refine wpScr_still rfl (fun K hK => ?_); go_simp; refine hK _ ?_; clear hK K
          refine wpScr_still rfl (fun K hK => ?_)
          go_simp
          refine ⟨.slice pp (l - (0 + 1)) (c1 - (0 + 1)), fun a => ?q, ?_⟩
          case q =>
            rw [if_pos (by omega)]
            refine ⟨rfl, ?_⟩
            rw [HPQ.out]
            try rfl
          refine hK _ ?_
          clear hK K

          refine stepScr_want rfl rfl (fun K hK => ?_)
          refine wp_appR (.tmp 115) (.tmp 119) eltOpen (by omega) rfl rfl bz _ (L.take 0) pp (l - (0 + 1)) (c1 - (0 + 1)) (L.drop (0 + 1)) rfl rfl ?x0 (fun x _ => opCells_len x) (fun x _ => opCells_one x) ?x1 ?x2 ?x3 ?x4 ?_
          case x0 => rw [List.length_drop, ← HLL.out]
          case x1 => exact L6.out
          case x2 => exact HPP.out
          case x3 => rw [List.length_drop, List.length_take, ← HLL.out]; omega
          case x4 => exact (Below.size' B6.out (by rw [HBZ.out]; exact Nat.le_refl _))
          intro p7 m7 d7 W7 o7 b7' g7
          obtain ⟨p8, c8, e8, h81, h82, h83, -⟩ := o7.form (fun x _ => opCells_len x)
          injection e8 with e1 e2 e3
          subst e1 e3
          have e4 : l - 1 = m7 := by rw [e2, List.length_append, List.length_drop, List.length_take, ← HLL.out]; omega
          subst e4
          have T7 : Hid (OwnR W7 bz 44 7 opCells (.slice p9 m9 d9) (T ++ [y])) := T6.out.kept fun g' h => g7.block (T6.out.lt g' h) (fun e => S9.out 0 g' h e)
          have S7 : Hid (∀ g', (Value.slice p9 m9 d9).ownBlock = some g' → (Value.slice p7 (l - 1) d7).ownBlock ≠ some g') := fun g' h e => by
            rcases g7.own g' e with h1 | h1
            · exact S9.out 0 g' h h1
            · exact absurd (T6.out.lt g' h) (Nat.not_lt.2 h1)
          have L7 := Lib.hid o7
          have B7 : Hid (Below bz Wl W7) := B6.out.trans b7'
          have E7 : Hid (l - 1 = (L.take 0 ++ L.drop (0 + 1)).length) := e2
          refine hK _ _ (inC b7') ?_
          clear hK K o7 b7' g7 h81 h82 h83 L6 T6 G6 S9 e2 B6
          refine wpScr_still rfl (fun K hK => ?_); go_simp; refine hK _ ?_; clear hK K
          refine wpScr_nil ?_
          go_wp2_with fail
          exact ⟨⟨L.take 0 ++ L.drop (0 + 1), T ++ [y], i + 1, l - 1, d7, p7, by go_num, rfl, by omega, E7.out, HPN.out, L7.out, T7.out, S7.out, B7.out⟩, by simp [intOf]; omega⟩
    have hkx : i < xs.length := by rw [← HM.out]; exact hlt
    obtain ⟨b, of, rfl, hpr⟩ := HX.out (by rintro rfl; simp at hkx)
    have UK := HU.out
    have g := rangeAt_up (hpr i hkx) UK
    have hxk := HXA.out _ (List.getElem_mem hkx)
    have hsub : ∀ L' : List (List UInt8 × List UInt8), (∀ k ∈ L, k ∈ L') → (msgE xs[i].a.o xs[i].salt = 0 → (cmtB xs[i].a.o xs[i].salt, encMsg xs[i].a.o xs[i].salt) ∈ L') → ∀ x ∈ xs.take (i + 1), msgE x.a.o x.salt = 0 → (cmtB x.a.o x.salt, encMsg x.a.o x.salt) ∈ L' := fun L' h1 h2 x hx h0 => by
      rcases mem_take_succ hkx hx with h3 | h3
      · exact h1 _ (HSUB.out x h3 h0)
      · subst h3; exact h2 h0
    obtain ⟨x, hxx⟩ : ∃ x, x = xs[i] := ⟨_, rfl⟩
    rw [← hxx] at g hxk hsub
    have CM := Lib.hid fun W (hu : Up wr W) => ocommit_calls x.a x.salt x.sp x.sc W (hxk.lts.up (Up.trans UK hu)) (hxk.sb.up (Up.trans UK hu)) (HT.out.up (Up.trans UK hu))
    have SM := Lib.hid fun W (hu : Up wr W) => omessage_calls x.a x.salt x.sp x.sc W (hxk.lts.up (Up.trans UK hu)) (hxk.sb.up (Up.trans UK hu))
    obtain ⟨eb, heb⟩ : ∃ eb, eb = msgE x.a.o x.salt := ⟨_, rfl⟩
    obtain ⟨D, hD⟩ : ∃ D, D = cmtL x.a.o x.salt := ⟨_, rfl⟩
    obtain ⟨M, hM⟩ : ∃ M, M = msgL x.a.o x.salt := ⟨_, rfl⟩
    have hgood : eb = 0 → D = cmtB x.a.o x.salt ∧ M = encMsg x.a.o x.salt := fun h => by rw [heb] at h; rw [hD, hM, cmtL, msgL, if_pos h, if_pos h]; exact ⟨rfl, rfl⟩
    have hDl : D.length ≤ maxLen := by
      rw [hD]; unfold cmtL maxLen; split
      · rw [cmtB_length]; omega
      · simp
    have HSB2 : Hid (∀ L' : List (List UInt8 × List UInt8), (∀ k ∈ L, k ∈ L') → (eb = 0 → (D, M) ∈ L') → ∀ x ∈ xs.take (i + 1), msgE x.a.o x.salt = 0 → (cmtB x.a.o x.salt, encMsg x.a.o x.salt) ∈ L') := fun L' h1 h2 => hsub L' h1 fun h0 => by
      obtain ⟨e1, e2⟩ := hgood (heb.trans h0)
      rw [← e1, ← e2]; exact h2 (heb.trans h0)
    obtain ⟨sn, hsn⟩ : ∃ sn, sn = x.salt.length := ⟨_, rfl⟩
    obtain ⟨A, hA⟩ : ∃ A, A = (ofCells x.a).toArray := ⟨_, rfl⟩
    obtain ⟨B, hB⟩ : ∃ B, B = (opCells x).toArray := ⟨_, rfl⟩
    have hAs : A.size = 6 := by rw [hA]; rfl
    have hBs : B.size = 7 := by rw [hB]; rfl
    have hBc : B.all (·.oneCell') = true := by
      rw [hB, Array.all_eq_true_iff_forall_mem]
      intro v hv
      exact opCells_one _ v (by simpa using hv)
    have hBA : ∀ j, j < A.size → B[0 + j]? = A[j]? := fun j hj => by
      have hj6 : j < 6 := by rw [hAs] at hj; exact hj
      rw [Nat.zero_add, hB, hA]
      obtain rfl | rfl | rfl | rfl | rfl | rfl : j = 0 ∨ j = 1 ∨ j = 2 ∨ j = 3 ∨ j = 4 ∨ j = 5 := by omega
      all_goals rfl
    have hB6 : B[6]? = some (.slice x.sp sn x.sc) := by rw [hB, hsn]; rfl
    rw [← hA, ← hsn, ← hD, ← heb] at CM
    rw [← hA, ← hsn, ← hM, ← heb] at SM
    have G : Hid (wr.rangeAt b (of + i * 7) B.toList) := by show wr.rangeAt _ _ _; rw [hB]; exact g
    have HAs := Lib.hid hAs
    have HBs := Lib.hid hBs
    have HBc := Lib.hid hBc
    have HBA := Lib.hid hBA
    have HB6 := Lib.hid hB6
    have HDL := Lib.hid hDl
    clear hA hB hAs hBs hBc hBA hB6 heb hD hM hsn g hxk hpr hkx hxx UK HSUB hsub hgood hDl
    go_wp2_with (first | ((with_reducible show wpList _ _ _ (Oper.mk _ (Op.load _ (Operand.tmp 42)) _ _ _ _ :: _) _ _); refine wpList_load_arr rfl 44 (.tmp 42) rfl b (of + i * 7) rfl B _ G.out rfl rfl (by rw [HBs.out]; rfl) ?_) | ((with_reducible show wpList _ _ _ (Oper.mk _ (Op.store _ (Operand.tmp 9) (Operand.tmp 43)) _ _ _ _ :: _) _ _); refine wpList_store_row rfl 44 (.tmp 9) (.tmp 43) rfl _ B rfl rfl 44 _ (heap_new rfl) (by rw [HBs.out]; rfl) (by rw [HBs.out]; rfl) HBc.out ?_; refine wpList_named ?_; intro W5 hW5; have u5 : Up wr W5 := (by rw [hW5]; exact below_setRow ((Up.refl wr).alloc _) (Nat.le_refl _) _); have x5 : W5.heap[wr.heap.size]? = some (.cells B 44 (0, 0)) := (by rw [hW5]; exact setRow_heap _ _ _ _ _ _ (heap_new rfl)); (have l6 : W5.cell? ⟨wr.heap.size, 6, none⟩ = some (.slice x.sp sn x.sc) := (cell_of_row W5 _ 6 _ _ _ x5).trans HB6.out); have U5 := Lib.hid u5; have X5 := Lib.hid x5; clear hW5 u5 x5) | ((with_reducible show wpList _ _ _ (Oper.mk _ (Op.load _ (Operand.tmp 45)) _ _ _ _ :: _) _ _); refine wpList_load_arr rfl 26 (.tmp 45) rfl wr.heap.size 0 rfl A _ (rangeAt_part X5.out 0 A HBA.out) rfl rfl (by rw [HAs.out]; rfl) ?_))
    refine (CM.out W5 U5.out).mono ?_
    rintro e W6 ⟨pd, cd, rfl, sbd, hc1, hc2, u6⟩
    have U6 : Hid (Up wr W6) := Up.trans U5.out u6
    have X6 := Lib.hid ((u6.block _ (lt_of_block X5.out)).trans X5.out)
    have l6' : W6.cell? ⟨wr.heap.size, 6, none⟩ = some (.slice x.sp sn x.sc) := (cell_of_row W6 _ 6 _ _ _ X6.out).trans HB6.out
    have SBD := Lib.hid sbd
    obtain ⟨nd, hnd⟩ : ∃ nd, nd = D.length := ⟨_, rfl⟩
    rw [← hnd]
    have HND := Lib.hid hnd
    clear u6 sbd hc1 hc2 CM X5 U5 l6 hnd G
    go_wp2_with (first | ((with_reducible show wpList _ _ _ (Oper.mk _ (Op.load _ (Operand.tmp 53)) _ _ _ _ :: _) _ _); refine wpList_load_arr rfl 26 (.tmp 53) rfl wr.heap.size 0 rfl A _ (rangeAt_part X6.out 0 A HBA.out) rfl rfl (by rw [HAs.out]; rfl) ?_))
    refine (SM.out W6 U6.out).mono ?_
    rintro e W7 ⟨pm, cm, rfl, sbm, hc1, hc2, u7⟩
    have U7 : Hid (Up wr W7) := Up.trans U6.out u7
    have U07 : Hid (Up w W7) := Up.trans HU.out U7.out
    have SBM := Lib.hid sbm
    have SBD7 := Lib.hid (SBD.out.up u7)
    have M7 := Lib.hid (HMP.out.up U7.out)
    obtain ⟨nm, hnm⟩ : ∃ nm, nm = M.length := ⟨_, rfl⟩
    rw [← hnm]
    have HNM := Lib.hid hnm
    clear u7 sbm hc1 hc2 SM X6 U6 l6' hnm SBD HU HMP
    by_cases h0 : eb = 0
    case neg =>
      have d0 : (eb != 0) = true := by rw [bne_iff_ne]; exact h0
      have HSN := Lib.hid (HSB2.out L (fun k h => h) (fun h => absurd h h0))
      have M8 := Lib.hid (M7.out.mono (Nat.le_succ i))
      clear h0 HSB2
      go_wp2_with fail
      exact ⟨⟨i + 1, L, by omega, by go_num, U07, M8, HOM, HSN⟩, by simp [intOf]; omega⟩
    subst h0
    have d0 : ((0 : Int) != 0) = false := by simp
    have q4 : (convert 27 9 (.slice pd nd cd)).run Tryd.prog W7 = .ok (.string (bsOf D)) W7 := by rw [HND.out]; exact run_text_of _ pd cd D SBD7.out
    have q5 : (convert 27 9 (.slice pm nm cm)).run Tryd.prog W7 = .ok (.string (bsOf M)) W7 := by rw [HNM.out]; exact run_text_of _ pm cm M SBM.out
    have HNEXT : Hid ((∀ m', (D, m') ∈ L → m' = M) → OneMsg ((D, M) :: L) ∧ (∀ x ∈ xs.take (i + 1), msgE x.a.o x.salt = 0 → (cmtB x.a.o x.salt, encMsg x.a.o x.salt) ∈ (D, M) :: L)) := fun h => ⟨HOM.out.add D M h, HSB2.out _ (fun k hk => List.mem_cons_of_mem _ hk) (fun _ => List.mem_cons_self)⟩
    clear HSB2
    cases hlk : strF L (.string D) with
    | none =>
      have HNX := Lib.hid (HNEXT.out fun m' h => absurd h (strF_none L D hlk m'))
      have HLK := Lib.hid hlk
      clear HNEXT hlk
      go_wp2_with (first | ((with_reducible show wpList _ _ _ (Oper.mk _ (Op.lookup _ _ (Operand.tmp 69) _) _ _ _ _ :: _) _ _); refine wpList_look_ok2 rfl (.tmp 67) (.tmp 69) 54 rfl 9 9 keyedStr rfl (zeroStr _) b7 i (strF L) rfl M7.out _ (.string D) rfl (keyStr D HDL.out) (.string ⟨#[]⟩) false (by rw [HLK.out]; rfl) (by rw [HLK.out]; rfl) ?_) | ((with_reducible show wpList _ _ _ (Oper.mk _ (Op.mapUpdate _ _ _ _) _ _ _ _ :: _) _ _); refine wpList_mapPut rfl (.tmp 80) (.tmp 82) (.tmp 84) 54 rfl 9 9 keyedStr rfl b7 i (strF L) rfl M7.out (by unfold maxLen; omega) _ (.string (bsOf M)) (.string D) rfl rfl (keyStr D HDL.out) ?_; intro W9 m9 g9; have M9 := Lib.hid m9; have U9 : Hid (Up w W9) := (Below.trans U07.out (grown_below g9 U07.out.size (fun g h => by injection h with h; subst h; exact HB7.out))); clear m9 g9))
      exact ⟨⟨i + 1, (D, M) :: L, by omega, by go_num, U9, M9, HNX.out.1, HNX.out.2⟩, by simp [intOf]; omega⟩
    | some v =>
      obtain ⟨m', hm', rfl⟩ := strF_mem L D v hlk
      have d3 := bs_eq m' M
      have HLK := Lib.hid hlk
      by_cases hmm' : m' = M
      case neg =>
        rw [decide_eq_false hmm'] at d3
        have d4 : ((bsOf m').toList != (bsOf M).toList) = true := by rw [bne, d3]; rfl
        clear HNEXT hlk hm' hmm' hmm
        go_wp2_with (first | ((with_reducible show wpList _ _ _ (Oper.mk _ (Op.lookup _ _ (Operand.tmp 69) _) _ _ _ _ :: _) _ _); refine wpList_look_ok2 rfl (.tmp 67) (.tmp 69) 54 rfl 9 9 keyedStr rfl (zeroStr _) b7 i (strF L) rfl M7.out _ (.string D) rfl (keyStr D HDL.out) (.string (bsOf m')) true (by rw [HLK.out]; rfl) (by rw [HLK.out]; rfl) ?_))
        go_ret
        exact ⟨rfl, U07.out⟩
      rw [decide_eq_true hmm'] at d3
      have d4 : ((bsOf m').toList != (bsOf M).toList) = false := by rw [bne, d3]; rfl
      have HNX := Lib.hid (HNEXT.out fun m2 h => by rw [← hmm']; exact HOM.out D m2 m' h hm')
      clear HNEXT hlk hm' hmm' hmm
      go_wp2_with (first | ((with_reducible show wpList _ _ _ (Oper.mk _ (Op.lookup _ _ (Operand.tmp 69) _) _ _ _ _ :: _) _ _); refine wpList_look_ok2 rfl (.tmp 67) (.tmp 69) 54 rfl 9 9 keyedStr rfl (zeroStr _) b7 i (strF L) rfl M7.out _ (.string D) rfl (keyStr D HDL.out) (.string (bsOf m')) true (by rw [HLK.out]; rfl) (by rw [HLK.out]; rfl) ?_) | ((with_reducible show wpList _ _ _ (Oper.mk _ (Op.mapUpdate _ _ _ _) _ _ _ _ :: _) _ _); refine wpList_mapPut rfl (.tmp 80) (.tmp 82) (.tmp 84) 54 rfl 9 9 keyedStr rfl b7 i (strF L) rfl M7.out (by unfold maxLen; omega) _ (.string (bsOf M)) (.string D) rfl rfl (keyStr D HDL.out) ?_; intro W9 m9 g9; have M9 := Lib.hid m9; have U9 : Hid (Up w W9) := (Below.trans U07.out (grown_below g9 U07.out.size (fun g h => by injection h with h; subst h; exact HB7.out))); clear m9 g9))
      exact ⟨⟨i + 1, (D, M) :: L, by omega, by go_num, U9, M9, HNX.out.1, HNX.out.2⟩, by simp [intOf]; omega⟩

end Go.Proofs.YtmifpokafaiebaaDoor
