/- the reference's right and find. the reference's Reveal. -/
import Derived.Test.YtmifpokafaiebaaDoorOvA
namespace Go.Proofs.YtmifpokafaiebaaDoor
open Go Go.RowKit
set_option linter.unusedVariables false
set_option maxRecDepth 100000

set_option maxHeartbeats 4000000 in
theorem rright44_calls (p : Option Addr) (n c : Nat) (sls : List SlA) (w : World) (hn : n = sls.length) (hc : n ≤ c) (hcm : c ≤ maxLen) (hr : RowAt w p 2 slCells sls) (hn64 : n ≤ 1000) :
    Calls Tryd.prog 42 #[.slice p n c] w fun e w' => e = .returned (.bool (sls.all fun s => !badSl s)) ∧ Up w w' := by
  obtain ⟨V, hV⟩ : ∃ V, V = sls.all fun s => !badSl s := ⟨_, rfl⟩
  rw [← hV]
  have HV := Lib.hid hV
  have HN := Lib.hid hn
  have R1 := Lib.hid hr
  clear hV hn hr
  go_enter Tryd.func42, Tryd.ntmps42
  go_wp2_with fail
  go_loopw [3] (fun v5 wq => ∃ i : Nat, i ≤ n ∧ v5 = .int .i64 i ∧ Hid (sls.all (fun s => !badSl s) = (sls.drop i).all (fun s => !badSl s)) ∧ Hid (Up w wq)) (fun v5 _ => n - (intOf v5).toNat)
  case atStart => exact ⟨0, by omega, rfl, rfl, Up.refl _⟩
  case round =>
    obtain ⟨i, hi, rfl, HA, HU⟩ := hrel
    by_cases hlt : i < n
    case neg =>
      have hv : V = true := by rw [HV.out, HA.out, List.drop_of_length_le (by rw [← HN.out]; omega)]; rfl
      subst hv
      go_wp2_with fail
      go_ret
      exact ⟨rfl, HU.out⟩
    have hil : i < sls.length := by rw [← HN.out]; exact hlt
    obtain ⟨b, o, rfl, hpr⟩ := R1.out (by rintro rfl; simp at hil)
    have g := rangeAt_up (hpr i hil) HU.out
    have hda := HA.out
    rw [List.drop_eq_getElem_cons hil, List.all_cons] at hda
    obtain ⟨s, hs⟩ : ∃ s, s = sls[i] := ⟨_, rfl⟩
    rw [← hs] at g hda
    obtain ⟨f, dg, sp, sc⟩ := s
    obtain ⟨dn, hdn⟩ : ∃ dn, dn = dg.length := ⟨_, rfl⟩
    have g0 : wr.cell? ⟨b, o + i * 2, none⟩ = some (.int .i64 f) := by have := g 0 _ rfl; simpa using this
    have g1 : wr.cell? ⟨b, o + i * 2 + 1, none⟩ = some (.slice sp dn sc) := by rw [hdn]; have := g 1 _ rfl; simpa using this
    obtain ⟨b1, hb1⟩ : ∃ b, b = (decide (0 ≤ f) && decide (f ≤ 599)) := ⟨_, rfl⟩
    have hbs : badSl ⟨f, dg, sp, sc⟩ = (!b1 || decide (dn ≠ 32)) := by
      unfold badSl
      rw [hb1, hdn, Bool.eq_iff_iff]
      simp only [Bool.or_eq_true, Bool.not_eq_true', Bool.and_eq_false_iff, decide_eq_true_eq, decide_eq_false_iff_not]
      omega
    rw [hbs] at hda
    have C1 := Lib.hid fun W => rwithin_calls f 0 599 W
    rw [← hb1] at C1
    have HDA := Lib.hid hda
    have G1 := Lib.hid g1
    clear hda hb1 hbs hdn hs g hpr hil HA g1
    go_wp2_with fail
    refine (C1.out wr).mono ?_
    rintro e w2 ⟨rfl, u2⟩
    have U2 : Hid (Up w w2) := Up.trans HU.out u2
    have g2 := cell_up G1.out u2
    clear u2 C1
    cases b1
    case false =>
      have hv : V = false := by rw [HV.out, HDA.out]; rfl
      subst hv
      clear HDA g2
      go_wp2_with fail
      go_ret
      exact ⟨rfl, U2.out⟩
    by_cases h32 : dn = 32
    case neg =>
      have d1 : (((dn : Nat) : Int) != 32) = true := by rw [bne_iff_ne]; omega
      have hv : V = false := by rw [HV.out, HDA.out, decide_eq_true h32]; rfl
      subst hv
      clear HDA h32
      go_wp2_with fail
      go_ret
      exact ⟨rfl, U2.out⟩
    subst h32
    have d1 : (((32 : Nat) : Int) != 32) = false := by simp
    have HA2 : Hid (sls.all (fun s => !badSl s) = (sls.drop (i + 1)).all (fun s => !badSl s)) := by show _ = _; rw [HDA.out]; simp
    clear HDA
    go_wp2_with fail
    exact ⟨⟨i + 1, by omega, by go_num, HA2, U2⟩, by simp [intOf]; omega⟩

/-! ### find, plain -/
def findK {κ : Type} [DecidableEq κ] : List κ → List Int → κ → Nat → Int
  | k0 :: ks, b :: bs, k, i => if b < 0 ∧ k0 = k then i else findK ks bs k (i + 1)
  | _, _, _, _ => -1
def findX (sls : List SlA) (bs : List Int) (x : OpA) : Int := match opKey x with | none => -1 | some k => findK (sls.map slKey) bs k 0
theorem findK_drop {κ : Type} [DecidableEq κ] (ks : List κ) (bs : List Int) (k k0 : κ) (b : Int) (i j : Nat) (h1 : ks[i]? = some k0) (h2 : bs[i]? = some b) :
    findK (ks.drop i) (bs.drop i) k j = if b < 0 ∧ k0 = k then (j : Int) else findK (ks.drop (i + 1)) (bs.drop (i + 1)) k (j + 1) := by
  obtain ⟨h3, h4⟩ := List.getElem?_eq_some_iff.1 h1
  obtain ⟨h5, h6⟩ := List.getElem?_eq_some_iff.1 h2
  rw [List.drop_eq_getElem_cons h3, List.drop_eq_getElem_cons h5, h4, h6, findK]
/-- who uses a seal -/
def ByAt {α : Type} (bs : List Int) (st : List (Option α)) : Prop := bs.length = st.length ∧ ∀ i (h1 : i < bs.length) (h2 : i < st.length), bs[i] < 0 ↔ st[i] = none
theorem findK_fill {κ α : Type} [DecidableEq κ] : ∀ (ks : List κ) (bs : List Int) (st : List (Option α)) (k : κ) (x : α) (j : Nat), ks.length = st.length → ByAt bs st →
    (findK ks bs k j = -1 ∧ fillK ks st k x = st) ∨ ∃ i, i < st.length ∧ findK ks bs k j = ((j + i : Nat) : Int) ∧ fillK ks st k x = st.set i (some x)
  | [], [], [], k, x, j, _, _ => .inl ⟨rfl, rfl⟩
  | k0 :: ks, b :: bs, s :: st, k, x, j, hl, hb => by
    have hb0 : b < 0 ↔ s = none := hb.2 0 (by simp) (by simp)
    have hbt : ByAt bs st := ⟨by simpa using hb.1, fun i h1 h2 => hb.2 (i + 1) (by simpa using h1) (by simpa using h2)⟩
    have ih := findK_fill ks bs st k x (j + 1) (by simpa using hl) hbt
    rw [findK]
    by_cases h : b < 0 ∧ k0 = k
    · rw [if_pos h]
      have hs := hb0.1 h.1
      subst hs
      refine .inr ⟨0, by simp, by simp, ?_⟩
      rw [fillK, if_pos h.2]; rfl
    · rw [if_neg h]
      have e : fillK (k0 :: ks) (s :: st) k x = s :: fillK ks st k x := by
        cases s with
        | none => rw [fillK, if_neg fun e => h ⟨hb0.2 rfl, e⟩]
        | some y => rw [fillK]
      rw [e]
      rcases ih with ⟨h1, h2⟩ | ⟨i, h1, h2, h3⟩
      · exact .inl ⟨h1, by rw [h2]⟩
      · exact .inr ⟨i + 1, by simpa using h1, by rw [h2]; congr 1; omega, by rw [h3]; rfl⟩
  | [], b :: bs, [], k, x, j, _, hb => by have := hb.1; simp at this
  | [], [], _ :: _, k, x, j, hl, _ => by simp at hl
  | [], _ :: _, _ :: _, k, x, j, hl, _ => by simp at hl
  | _ :: _, _, [], k, x, j, hl, _ => by simp at hl
  | _ :: _, [], _ :: _, k, x, j, _, hb => by have := hb.1; simp at this
theorem ByAt.set {α : Type} {bs : List Int} {st : List (Option α)} (h : ByAt bs st) (i : Nat) (v : Nat) (x : α) (hi : i < st.length) : ByAt (bs.set i v) (st.set i (some x)) := by
  refine ⟨by simp [h.1], fun j h1 h2 => ?_⟩
  rw [List.getElem_set, List.getElem_set]
  by_cases hj : i = j
  · rw [if_pos hj, if_pos hj]; simp
  · rw [if_neg hj, if_neg hj]; exact h.2 j (by simpa using h1) (by simpa using h2)

set_option maxHeartbeats 8000000 in
theorem rfind_calls (x : OpA) (sls : List SlA) (bs : List Int) (p q : Option Addr) (n c d : Nat) (w : World) (hn : n = sls.length) (hm : n = bs.length) (hn64 : n ≤ 64) (hr : RowAt w p 2 slCells sls) (hsl : ∀ s ∈ sls, SlAt w s) (hq : RowAt w q 1 iEnc bs) (hc : n ≤ c) (hcm : c ≤ maxLen) (hd : n ≤ d) (hdm : d ≤ maxLen) (hx : OpAt w x) :
    Calls Tryd.prog 43 #[.slice p n c, .slice q n d, .agg (opCells x).toArray] w fun e w' => e = .returned (.int .i64 (findX sls bs x)) ∧ Up w w' := by
  have CM := Lib.hid fun W (hu : Up w W) => rcommit_calls x.a x.salt x.sp x.sc W (hx.lts.up hu) (hx.sb.up hu)
  have HAs : Hid ((ofCells x.a).toArray.size = 6) := rfl
  have HBs : Hid ((opCells x).toArray.size = 7) := rfl
  have HB1 : Hid ((opCells x).toArray[1]? = some (.int .i64 x.a.o.farm)) := rfl
  have HB6 : Hid ((opCells x).toArray[6]? = some (.slice x.sp x.salt.length x.sc)) := rfl
  have HBA : Hid (∀ j, j < (ofCells x.a).toArray.size → (opCells x).toArray[0 + j]? = (ofCells x.a).toArray[j]?) := fun j hj => by
    have hj6 : j < 6 := hj
    rw [Nat.zero_add]
    obtain rfl | rfl | rfl | rfl | rfl | rfl : j = 0 ∨ j = 1 ∨ j = 2 ∨ j = 3 ∨ j = 4 ∨ j = 5 := by omega
    all_goals rfl
  have HRW := Lib.hid hr
  have HQ := Lib.hid hq
  have HSL := Lib.hid hsl
  have HN := Lib.hid hn
  have HM := Lib.hid hm
  obtain ⟨F, hF⟩ : ∃ F, F = findX sls bs x := ⟨_, rfl⟩
  have HK2 : (msgE x.a.o x.salt ≠ 0 → F = -1) ∧ (msgE x.a.o x.salt = 0 → F = findK (sls.map slKey) bs (x.a.o.farm, cmtL x.a.o x.salt) 0) := by
    rw [hF]
    refine ⟨fun h => ?_, fun h => ?_⟩
    · unfold findX opKey; rw [if_neg h]
    · unfold findX opKey cmtL; rw [if_pos h, if_pos h]
  obtain ⟨A, hA⟩ : ∃ A, A = (ofCells x.a).toArray := ⟨_, rfl⟩
  obtain ⟨B, hB⟩ : ∃ B, B = (opCells x).toArray := ⟨_, rfl⟩
  obtain ⟨ee, hee⟩ : ∃ ee, ee = msgE x.a.o x.salt := ⟨_, rfl⟩
  obtain ⟨D, hD⟩ : ∃ D, D = cmtL x.a.o x.salt := ⟨_, rfl⟩
  obtain ⟨sn, hsn⟩ : ∃ sn, sn = x.salt.length := ⟨_, rfl⟩
  rw [← hA, ← hD, ← hee, ← hsn] at CM
  rw [← hA] at HAs HBA
  rw [← hB] at HBs HB1 HB6 HBA ⊢
  rw [← hsn] at HB6
  rw [← hee, ← hD] at HK2
  rw [← hF]
  have HK := Lib.hid HK2
  obtain ⟨fm, hfm⟩ : ∃ fm, fm = x.a.o.farm := ⟨_, rfl⟩
  rw [← hfm] at HB1 HK
  clear hA hB hee hD hsn hF hr hsl hn hm hq hx hfm HK2
  go_enter Tryd.func43, Tryd.ntmps43
  obtain ⟨bx, hbx⟩ : ∃ bx, bx = w.heap.size := ⟨_, rfl⟩
  have HBX := Lib.hid hbx
  go_wp2_with (first | ((with_reducible show wpList _ _ _ (Oper.mk _ (Op.load _ (Operand.tmp 11)) _ _ _ _ :: _) _ _); refine wpList_named ?_; intro W1 hW1; (have u1 : Up w W1 := by (rw [hW1]; exact (Up.refl w).alloc _)); (have x1 : W1.heap[bx]? = some (.cells B 44 (0, 0)) := by (rw [hW1]; exact heap_new HBX.out)); rw [← hbx]; have U1 := Lib.hid u1; have X1 := Lib.hid x1; (have l6 : W1.cell? ⟨bx, 6, none⟩ = some (.slice x.sp sn x.sc) := (cell_of_row W1 bx 6 _ _ _ x1).trans HB6.out); clear hW1 u1 x1 hbx; refine wpList_load_arr rfl 26 (.tmp 11) rfl bx 0 rfl A _ (rangeAt_part X1.out 0 A HBA.out) rfl rfl (by rw [HAs.out]; rfl) ?_))
  refine (CM.out W1 U1.out).mono ?_
  rintro e W2 ⟨pd, cd, rfl, sbd, hc1, hc2, u2⟩
  have U2 : Hid (Up w W2) := Up.trans U1.out u2
  have X2 := Lib.hid ((u2.block _ (lt_of_block X1.out)).trans X1.out)
  have SBD := Lib.hid sbd
  obtain ⟨nd, hnd⟩ : ∃ nd, nd = D.length := ⟨_, rfl⟩
  rw [← hnd]
  have HND := Lib.hid hnd
  clear u2 sbd hc1 hc2 CM X1 U1 l6 hnd
  by_cases h0 : ee = 0
  case neg =>
    have d0 : (ee != 0) = true := by rw [bne_iff_ne]; exact h0
    have hf : F = -1 := HK.out.1 h0
    subst hf
    clear h0 HK
    go_wp2_with fail
    go_ret
    exact ⟨rfl, U2.out⟩
  subst h0
  have d0 : ((0 : Int) != 0) = false := by simp
  have HF : Hid (F = findK (sls.map slKey) bs (fm, D) 0) := HK.out.2 rfl
  clear HK
  go_wp2_with fail
  go_loopw [9] (fun v9 wq => ∃ i : Nat, i ≤ n ∧ v9 = .int .i64 i ∧ Hid (F = findK ((sls.map slKey).drop i) (bs.drop i) (fm, D) i) ∧ Hid (Up W2 wq)) (fun v9 _ => n - (intOf v9).toNat)
  case atStart => exact ⟨0, by omega, rfl, by show F = _; rw [HF.out]; rfl, Up.refl _⟩
  case round =>
    obtain ⟨i, hi, rfl, HB, HU⟩ := hrel
    by_cases hlt : i < n
    case neg =>
      have hf : F = -1 := by
        rw [HB.out, List.drop_of_length_le (by rw [List.length_map, ← HN.out]; omega), findK]
        simp
      subst hf
      clear HB HF
      go_wp2_with fail
      go_ret
      exact ⟨rfl, Up.trans U2.out HU.out⟩
    have his : i < sls.length := by rw [← HN.out]; exact hlt
    have hit : i < bs.length := by rw [← HM.out]; exact hlt
    have hik : i < (sls.map slKey).length := by rw [List.length_map]; exact his
    obtain ⟨b, o, rfl, hpr⟩ := HRW.out (by rintro rfl; simp at his)
    obtain ⟨b2, o2, rfl, hpq⟩ := HQ.out (by rintro rfl; simp at hit)
    have UT := Up.trans U2.out HU.out
    have g := rangeAt_up (hpr i his) UT
    have gq := rangeAt_up (hpq i hit) UT 0 _ rfl
    have hsi := HSL.out _ (List.getElem_mem his)
    have hki : (sls.map slKey)[i]'hik = slKey sls[i] := List.getElem_map _
    obtain ⟨s, hs⟩ : ∃ s, s = sls[i] := ⟨_, rfl⟩
    rw [← hs] at g hsi hki
    obtain ⟨bi, hbi⟩ : ∃ bi, bi = bs[i] := ⟨_, rfl⟩
    rw [← hbi] at gq
    have hbg : bs[i]? = some bi := by rw [hbi]; exact List.getElem?_eq_getElem hit
    obtain ⟨sf, sdg, sp, sc⟩ := s
    have hki2 : (sls.map slKey)[i]? = some (sf, sdg) := by rw [List.getElem?_eq_getElem hik, hki]; rfl
    have hst := findK_drop (sls.map slKey) bs (fm, D) (sf, sdg) bi i i hki2 hbg
    obtain ⟨dn, hdn⟩ : ∃ dn, dn = sdg.length := ⟨_, rfl⟩
    have HST : Hid (F = if bi < 0 ∧ (sf, sdg) = (fm, D) then (i : Int) else findK ((sls.map slKey).drop (i + 1)) (bs.drop (i + 1)) (fm, D) (i + 1)) := by show F = _; rw [HB.out, hst]
    have c0 : wr.cell? ⟨b, o + i * 2, none⟩ = some (.int .i64 sf) := by have := g 0 _ rfl; simpa using this
    have c1 : wr.cell? ⟨b, o + i * 2 + 1, none⟩ = some (.slice sp dn sc) := by rw [hdn]; have := g 1 _ rfl; simpa using this
    have c2 : wr.cell? ⟨b2, o2 + i, none⟩ = some (.int .i64 bi) := by simpa using gq
    have c3 : wr.cell? ⟨bx, 1, none⟩ = some (.int .i64 fm) := (cell_of_row wr bx 1 _ _ _ ((HU.out.block _ (lt_of_block X2.out)).trans X2.out)).trans HB1.out
    have SI : Hid (SB wr sp sdg) := hsi.sb.up UT
    have SDW : Hid (SB wr pd D) := SBD.out.up HU.out
    have hz := Lib.hid fun (z : UpW wr.drew) => (Up.trans (Up.refl wr).drew z.up : Up wr z.w)
    have k0 : ∀ z : UpW wr.drew, z.w.cell? ⟨b, o + i * 2, none⟩ = some (.int .i64 sf) := fun z => cell_up c0 (hz.out z)
    have k1 : ∀ z : UpW wr.drew, z.w.cell? ⟨b, o + i * 2 + 1, none⟩ = some (.slice sp dn sc) := fun z => cell_up c1 (hz.out z)
    have k2 : ∀ z : UpW wr.drew, z.w.cell? ⟨b2, o2 + i, none⟩ = some (.int .i64 bi) := fun z => cell_up c2 (hz.out z)
    have k3 : ∀ z : UpW wr.drew, z.w.cell? ⟨bx, 1, none⟩ = some (.int .i64 fm) := fun z => cell_up c3 (hz.out z)
    have k4 : ∀ z : UpW wr.drew, (convert 27 9 (.slice sp dn sc)).run Tryd.prog z.w = .ok (.string (bsOf sdg)) z.w := fun z => by rw [hdn]; exact run_text_of z.w sp sc sdg (SI.out.up (hz.out z))
    have k5 : ∀ z : UpW wr.drew, (convert 27 9 (.slice pd nd cd)).run Tryd.prog z.w = .ok (.string (bsOf D)) z.w := fun z => by rw [HND.out]; exact run_text_of z.w pd cd D (SDW.out.up (hz.out z))
    have hI64 : Hid (i < 1000) := by show _ < _; omega
    clear hki hki2 hbg hbi hdn hs hsi g gq hpr hpq UT his hit hik hst HB c0 c1 c2 c3 SI SDW
    haveI := UpW.some_ wr.drew
    go_wp2_with fail
    by_cases hb : bi < 0
    case neg =>
      have d1 : decide (bi < 0) = false := by simpa using hb
      have HN2 : Hid (F = findK ((sls.map slKey).drop (i + 1)) (bs.drop (i + 1)) (fm, D) (i + 1)) := by show F = _; rw [HST.out, if_neg fun h => hb h.1]
      clear HST hb
      refine wp_region_up_k (by kernel_rfl) (by kernel_rfl) ?_
      intro R HRR
      have HRR' := Lib.hid HRR
      clear HRR
      repeat (first | go_big_quiet_skip | (with_reducible refine wpQuiet_step (fun K hK => ?_); go_simp; with_reducible refine hK _ ?_; clear hK K))
      refine wpQuiet_nil ?_
      refine HRR'.out _ ?_
      rintro w4 ⟨z, hz4⟩
      have U4 : Hid (Up W2 w4) := by show Up _ _; rw [hz4]; exact Up.trans HU.out (hz.out z)
      clear hz4 HRR' hz k0 k1 k2 k3 k4 k5
      go_wp2_with fail
      exact ⟨⟨i + 1, by omega, by go_num, HN2, U4⟩, by simp [intOf]; omega⟩
    have d1 : decide (bi < 0) = true := by simpa using hb
    by_cases hf : sf = fm
    case neg =>
      have d2 : (sf == fm) = false := by rw [beq_eq_false_iff_ne]; exact hf
      have HN2 : Hid (F = findK ((sls.map slKey).drop (i + 1)) (bs.drop (i + 1)) (fm, D) (i + 1)) := by show F = _; rw [HST.out, if_neg fun h => hf (by have := h.2; injection this)]
      clear HST hb hf
      refine wp_region_up_k (by kernel_rfl) (by kernel_rfl) ?_
      intro R HRR
      have HRR' := Lib.hid HRR
      clear HRR
      repeat (first | go_big_quiet_skip | (with_reducible refine wpQuiet_step (fun K hK => ?_); go_simp; with_reducible refine hK _ ?_; clear hK K))
      refine wpQuiet_nil ?_
      refine HRR'.out _ ?_
      rintro w4 ⟨z, hz4⟩
      have U4 : Hid (Up W2 w4) := by show Up _ _; rw [hz4]; exact Up.trans HU.out (hz.out z)
      clear hz4 HRR' hz k0 k1 k2 k3 k4 k5
      go_wp2_with fail
      exact ⟨⟨i + 1, by omega, by go_num, HN2, U4⟩, by simp [intOf]; omega⟩
    subst hf
    have d2 : (sf == sf) = true := by simp
    have d3 := bs_eq sdg D
    by_cases hd : sdg = D
    case neg =>
      rw [decide_eq_false hd] at d3
      have HN2 : Hid (F = findK ((sls.map slKey).drop (i + 1)) (bs.drop (i + 1)) (sf, D) (i + 1)) := by show F = _; rw [HST.out, if_neg fun h => hd (by have := h.2; injection this)]
      clear HST hb hd
      refine wp_region_up_k (by kernel_rfl) (by kernel_rfl) ?_
      intro R HRR
      have HRR' := Lib.hid HRR
      clear HRR
      repeat (first | go_big_quiet_skip | (with_reducible refine wpQuiet_step (fun K hK => ?_); go_simp; with_reducible refine hK _ ?_; clear hK K))
      refine wpQuiet_nil ?_
      refine HRR'.out _ ?_
      rintro w4 ⟨z, hz4⟩
      have U4 : Hid (Up W2 w4) := by show Up _ _; rw [hz4]; exact Up.trans HU.out (hz.out z)
      clear hz4 HRR' hz k0 k1 k2 k3 k4 k5
      go_wp2_with fail
      exact ⟨⟨i + 1, by omega, by go_num, HN2, U4⟩, by simp [intOf]; omega⟩
    subst hd
    rw [decide_eq_true rfl] at d3
    have hv : F = (i : Int) := by rw [HST.out, if_pos ⟨hb, rfl⟩]
    subst hv
    clear HST hb HF
    refine wp_region_up_k (by kernel_rfl) (by kernel_rfl) ?_
    intro R HRR
    have HRR' := Lib.hid HRR
    clear HRR
    repeat (first | go_big_quiet_skip | (with_reducible refine wpQuiet_step (fun K hK => ?_); go_simp; with_reducible refine hK _ ?_; clear hK K))
    refine wpQuiet_nil ?_
    refine HRR'.out _ ?_
    rintro w4 ⟨z, hz4⟩
    have U4 : Hid (Up W2 w4) := by show Up _ _; rw [hz4]; exact Up.trans HU.out (hz.out z)
    clear hz4 HRR' hz k0 k1 k2 k3 k4 k5
    go_wp2_with fail
    go_ret
    exact ⟨rfl, Up.trans U2.out U4.out⟩

end Go.Proofs.YtmifpokafaiebaaDoor

namespace Go.Proofs.YtmifpokafaiebaaDoor
open Go Go.RowKit
set_option linter.unusedVariables false
set_option maxRecDepth 100000

set_option maxHeartbeats 8000000 in
theorem rreveal_bad (p q : Option Addr) (n c m d : Nat) (sls : List SlA) (xs : List OpA) (w : World) (hn : n = sls.length) (hm : m = xs.length) (hb : revE sls xs ≠ 0) (hc : n ≤ c) (hcm : c ≤ maxLen) (hd : m ≤ d) (hdm : d ≤ maxLen)
    (hr : RowAt w p 2 slCells sls) : Calls Tryd.prog 20 #[.slice p n c, .slice q m d] w (RetR w [] [] (revE sls xs)) := by
  unfold revE at hb ⊢
  rw [← hn, ← hm] at hb ⊢
  have HR := Lib.hid hr
  have HN := Lib.hid hn
  clear hn hm hr
  by_cases h1 : 64 < n
  · have d1 : decide ((64 : Int) < (n : Int)) = true := by simp; omega
    rw [if_pos (.inl h1)]
    clear hb h1
    go_enter Tryd.func20, Tryd.ntmps20
    go_wp2_with fail
    go_ret3
    exact RetR.nil (Up.refl w)
  have d1 : decide ((64 : Int) < (n : Int)) = false := by simp; omega
  by_cases h2 : 64 < m
  · have d2 : decide ((64 : Int) < (m : Int)) = true := by simp; omega
    rw [if_pos (.inr h2)]
    clear hb h1 h2
    go_enter Tryd.func20, Tryd.ntmps20
    go_wp2_with fail
    go_ret3
    exact RetR.nil (Up.refl w)
  have d2 : decide ((64 : Int) < (m : Int)) = false := by simp; omega
  rw [if_neg (by rintro (h | h) <;> omega)] at hb ⊢
  have ha : (sls.all fun s => !badSl s) = false := by
    cases h : (sls.all fun s => !badSl s)
    · rfl
    · rw [if_pos h] at hb; exact absurd rfl hb
  rw [if_neg (by rw [ha]; simp)]
  have CF := Lib.hid fun W (hu : Up w W) => rright44_calls p n c sls W HN.out hc hcm (fun hne => by
    obtain ⟨b, o, e, hi⟩ := HR.out hne
    exact ⟨b, o, e, fun i h => rangeAt_up (hi i h) hu⟩) (by omega)
  rw [ha] at CF
  clear hb h1 h2 ha HR HN
  go_enter Tryd.func20, Tryd.ntmps20
  go_wp2_with fail
  refine (CF.out w (Up.refl w)).mono ?_
  rintro e w1 ⟨rfl, u1⟩
  have U1 : Hid (Up w w1) := u1
  clear u1
  go_wp2_with fail
  go_ret3
  exact RetR.nil U1.out

theorem OwnI.set {w : World} {base g n c : Nat} {l : List Int} {i : Nat} {x : Int} (h : OwnR w base 3 1 iEnc (.slice (some ⟨g, 0, none⟩) n c) l) (hi : i < l.length) :
    OwnR (w.setCell ⟨g, i, none⟩ (.int .i64 x)) base 3 1 iEnc (.slice (some ⟨g, 0, none⟩) n c) (l.set i x) ∧ (∃ old, w.cell? ⟨g, i, none⟩ = some old) ∧ w.frozen? ⟨g, i, none⟩ = false := by
  have hne : l ≠ [] := by rintro rfl; simp at hi
  obtain ⟨g', c', cur, hv, hbg, hg, hnc, hcm, hcs, htake⟩ := h.form2 hne
  injection hv with h1 h2 h3
  injection h1 with h1
  injection h1 with h1
  subst h1 h2 h3
  have hfl : ∀ l : List Int, fl iEnc l = l.map fun n => Value.int .i64 n := fun l => by
    induction l with
    | nil => rfl
    | cons a l ih => show iEnc a ++ fl iEnc l = _; rw [ih]; rfl
  have hcur : i < cur.size := by omega
  refine ⟨?_, ⟨cur[i], by rw [cell_of_row w g i _ _ _ hg]; exact Array.getElem?_eq_getElem hcur⟩, free_row hg i⟩
  have hh := heap_setCell_same w g i _ _ (.int .i64 x) hg
  refine ⟨by rw [hfl]; simp, .inr ⟨g, c, _, by rw [List.length_set], hbg, hh, by rw [List.length_set]; exact hnc, hcm, by simpa using hcs, ?_⟩⟩
  have h5 : cur.toList.take l.length = l.map fun n => Value.int .i64 n := by
    rw [← hfl]
    have := htake
    rw [hfl, List.length_map] at this
    rw [hfl]; exact this
  rw [hfl, List.length_set, Nat.mul_one, Array.toList_setIfInBounds, List.take_set, h5, List.map_set]

structure ByR (bs : List Int) (st : List (Option OpA)) (xs : List OpA) : Prop where
  at' : ByAt bs st
  of : ∀ (i : Nat) (b : Int), bs[i]? = some b → 0 ≤ b → ∃ (k : Nat) (x : OpA), b = k ∧ xs[k]? = some x ∧ st[i]? = some (some x)
theorem ByR.start (n : Nat) (xs : List OpA) : ByR (List.replicate n (-1)) (List.replicate n none) xs := by
  refine ⟨⟨by simp, fun i h1 h2 => by simp⟩, fun i b hb h0 => ?_⟩
  rw [List.getElem?_replicate] at hb
  split at hb
  · injection hb with hb; omega
  · cases hb
theorem ByR.set {bs : List Int} {st : List (Option OpA)} {xs : List OpA} (h : ByR bs st xs) (i k : Nat) (x : OpA) (hi : i < st.length) (hk : xs[k]? = some x) : ByR (bs.set i k) (st.set i (some x)) xs := by
  refine ⟨h.at'.set i k x hi, fun j b hb h0 => ?_⟩
  rw [List.getElem?_set] at hb
  by_cases hj : i = j
  · subst hj
    rw [if_pos rfl, if_pos (by rw [h.at'.1]; exact hi)] at hb
    injection hb with hb
    exact ⟨k, x, hb.symm, hk, by rw [List.getElem?_set_self hi]⟩
  · rw [if_neg hj] at hb
    obtain ⟨k', x', h1, h2, h3⟩ := h.of j b hb h0
    exact ⟨k', x', h1, h2, by rw [List.getElem?_set_ne hj]; exact h3⟩

set_option maxHeartbeats 16000000 in
theorem rreveal_good (p q : Option Addr) (n c m d : Nat) (sls : List SlA) (xs : List OpA) (w : World) (hn : n = sls.length) (hm : m = xs.length) (hb : revE sls xs = 0) (hc : n ≤ c) (hcm : c ≤ maxLen) (hd : m ≤ d) (hdm : d ≤ maxLen)
    (hr : RowAt w p 2 slCells sls) (hsl : ∀ s ∈ sls, SlAt w s) (hx : RowAt w q 7 opCells xs) (hxa : ∀ x ∈ xs, OpAt w x) : Calls Tryd.prog 20 #[.slice p n c, .slice q m d] w
      (RetR w ((outs opNo [] (revSt sls xs)).map fun x => x.a.o) ((sil 0 (revSt sls xs)).map (fun n : Nat => (n : Int))) 0) := by
  obtain ⟨LF, hLF⟩ : ∃ LF, LF = (outs opNo [] (revSt sls xs)).map fun x => x.a.o := ⟨_, rfl⟩
  obtain ⟨NF, hNF⟩ : ∃ NF, NF = (sil 0 (revSt sls xs)).map (fun n : Nat => (n : Int)) := ⟨_, rfl⟩
  rw [← hLF, ← hNF]
  unfold revE at hb
  rw [← hn, ← hm] at hb
  have h1 : ¬ (64 < n ∨ 64 < m) := fun h => by rw [if_pos h] at hb; omega
  rw [if_neg h1] at hb
  have ha : (sls.all fun s => !badSl s) = true := by
    cases h : (sls.all fun s => !badSl s)
    · rw [if_neg (by rw [h]; simp)] at hb; omega
    · rfl
  have hn64 : n ≤ 64 := by omega
  have hm64 : m ≤ 64 := by omega
  have d1 : decide ((64 : Int) < (n : Int)) = false := by simp; omega
  have d2 : decide ((64 : Int) < (m : Int)) = false := by simp; omega
  have HR := Lib.hid hr
  have HN := Lib.hid hn
  have HM := Lib.hid hm
  have HX := Lib.hid hx
  have HXA := Lib.hid hxa
  have HSL := Lib.hid hsl
  have CF := Lib.hid fun W (hu : Up w W) => rright44_calls p n c sls W HN.out hc hcm (HR.out.kept2 hu) (by omega)
  rw [ha] at CF
  have HLF := Lib.hid hLF
  have HNF := Lib.hid hNF
  clear hb h1 ha hr hn hm hx hxa hsl hLF hNF
  go_enter Tryd.func20, Tryd.ntmps20
  go_wp2_with fail
  refine (CF.out w (Up.refl w)).mono ?_
  rintro e W2 ⟨rfl, u2⟩
  have U2 : Hid (Up w W2) := u2
  clear u2 CF
  go_wp2_with fail
  refine wp_named ?_
  intro W3 hW3
  obtain ⟨bq, hbq⟩ : ∃ b, b = W2.heap.size := ⟨_, rfl⟩
  rw [← hbq]
  have u3 : Up W2 W3 := by rw [hW3]; exact (Up.refl W2).alloc _
  have o3 : OwnR W3 bq 3 1 iEnc (.slice (some ⟨bq, 0, none⟩) 0 0) [] := by rw [hW3, hbq]; exact OwnR.empty W2
  have U3 : Hid (Up w W3) := Up.trans U2.out u3
  have O3 := Lib.hid o3
  have HBQ : Hid (w.heap.size ≤ bq) := by show _ ≤ _; rw [hbq]; exact U2.out.size
  clear hW3 u3 o3 hbq U2
  go_loopw [8, 9] (fun v8 v9 wq => ∃ i : Nat, i ≤ n ∧ v9 = .int .i64 i ∧ Hid (OwnR wq bq 3 1 iEnc v8 (List.replicate i (-1))) ∧ Hid (Below bq W3 wq) ∧ Hid (∃ g k cc, v8 = .slice (some ⟨g, 0, none⟩) k cc)) (fun _ v9 _ => n - (intOf v9).toNat)
  case atStart => exact ⟨0, by omega, rfl, O3, Below.refl _ _, ⟨_, _, _, rfl⟩⟩
  case round =>
    obtain ⟨i, hi, rfl, HO, HU, HG⟩ := hrel
    have HBS : Hid (bq ≤ wr.heap.size) := Nat.le_trans (Nat.le_of_lt (O3.out.lt bq rfl)) HU.out.size
    by_cases hlt : i < n
    case pos =>
      have HST : Hid (List.replicate (i + 1) (-1 : Int) = List.replicate i (-1) ++ [-1]) := List.replicate_succ'
      have hi64 : Hid (i ≤ 64) := by show _ ≤ _; omega
      go_wp2_with (refine wpList_named ?_; intro W8 hW8; at_builtin; (have u8 : Up wr W8 := by (rw [hW8]; exact (Up.refl wr).alloc _)); (have r8 : RowAt W8 (some ⟨wr.heap.size, 0, none⟩) 1 iEnc [(-1 : Int)] := rowAt_block (D := #[.int .i64 (-1)]) (fun _ _ => rfl) rfl (by (rw [hW8]; exact heap_new rfl))); have U8 := Lib.hid u8; have R8 := Lib.hid r8; clear hW8 u8 r8; refine wpList_appR rfl (.tmp 37) (.tmp 38) eltInt (by omega) rfl rfl bq _ (List.replicate i (-1)) _ 1 1 [(-1 : Int)] rfl rfl rfl (fun x _ => iEnc_len x) (fun x _ => iEnc_one x) (HO.out.up U8.out) R8.out (by have := hi64.out; simp; omega) (Nat.le_trans HBS.out U8.out.size) ?_; intro p9 m9 c9 W9 o9 b9 g9; rw [← HST.out] at o9; have O9 := Lib.hid o9; have B9 : Hid (Below bq W3 W9) := (HU.out.trans (Up.below' U8.out HBS.out)).trans b9; clear o9 b9 g9)
      exact ⟨⟨i + 1, by omega, by go_num, O9, B9, by
        obtain ⟨g, cc, cur, e, -⟩ := O9.out.form2 (by simp)
        exact ⟨g, _, cc, e⟩⟩, by simp [intOf]; omega⟩
    have hin : n = i := by omega
    subst hin
    obtain ⟨g8, k8, c8, hv8⟩ := HG.out
    subst hv8
    have hk8 : k8 = n ∧ n ≤ c8 ∧ c8 ≤ maxLen := by
      obtain ⟨p', c', e, h1, h2, -, -⟩ := HO.out.form (fun x _ => iEnc_len x)
      injection e with e1 e2 e3
      rw [List.length_replicate] at e2 h1
      exact ⟨e2, by rw [e3]; exact h1, by rw [e3]; exact h2⟩
    obtain ⟨rfl, hn8, hc8⟩ := hk8
    have HG8 : Hid (bq ≤ g8 ∧ g8 < wr.heap.size) := ⟨HO.out.block g8 rfl, HO.out.lt g8 rfl⟩
    obtain ⟨W4, hW4⟩ : ∃ W4, W4 = wr := ⟨_, rfl⟩
    subst hW4
    have U4 : Hid (Up w W4) := Below.trans U3.out (HU.out.mono HBQ.out)
    obtain ⟨ks, hks⟩ : ∃ ks, ks = sls.map slKey := ⟨_, rfl⟩
    have HKS := Lib.hid hks
    clear hlt hi HU HG O3 hks U3
    go_wp2_with fail
    go_loopw [10] (fun v10 wq => ∃ (k : Nat) (Bs : List Int), k ≤ m ∧ v10 = .int .i64 k ∧ Hid (OwnR wq bq 3 1 iEnc (.slice (some ⟨g8, 0, none⟩) k8 c8) Bs) ∧ Hid (ByR Bs ((xs.take k).foldl (useK opKey ks) (List.replicate k8 none)) xs) ∧ Hid (Below bq W4 wq)) (fun v10 _ => m - (intOf v10).toNat)
    case atStart => exact ⟨0, _, by omega, rfl, HO, ByR.start k8 xs, Below.refl _ _⟩
    case round =>
      obtain ⟨k, Bs, hk, rfl, HB, HY, HV⟩ := hrel
      have UK : Hid (Up w wr) := Below.trans U4.out (HV.out.mono HBQ.out)
      have HBS4 : Hid (bq ≤ wr.heap.size) := Nat.le_trans HBS.out HV.out.size
      by_cases hlt : k < m
      case pos =>
        have hkx : k < xs.length := by rw [← HM.out]; exact hlt
        obtain ⟨b, of, rfl, hpr⟩ := HX.out (by rintro rfl; simp at hkx)
        have g := rangeAt_up (hpr k hkx) UK.out
        have hxk := HXA.out _ (List.getElem_mem hkx)
        have hfold := foldl_take (useK opKey ks) (List.replicate k8 none) xs k hkx
        have hxk2 : xs[k]? = some xs[k] := List.getElem?_eq_getElem hkx
        obtain ⟨x, hxx⟩ : ∃ x, x = xs[k] := ⟨_, rfl⟩
        rw [← hxx] at g hxk hfold hxk2
        obtain ⟨ST, hST⟩ : ∃ ST, ST = (xs.take k).foldl (useK opKey ks) (List.replicate k8 none) := ⟨_, rfl⟩
        rw [← hST] at HY hfold
        have hSTl : ST.length = k8 := by rw [hST, foldl_useK_length, List.length_replicate]
        have hBl : Bs.length = k8 := by rw [HY.out.at'.1, hSTl]
        have hrb : RowAt wr (some ⟨g8, 0, none⟩) 1 iEnc Bs := by
          obtain ⟨p', c', e, -, -, h3, -⟩ := HB.out.form (fun x _ => iEnc_len x)
          injection e with e1 e2 e3
          subst e1; exact h3
        have FD := Lib.hid fun W (hu : Up wr W) => rfind_calls x sls Bs p (some ⟨g8, 0, none⟩) k8 c c8 W HN.out hBl.symm hn64 (HR.out.kept2 (Up.trans UK.out hu)) (fun s hs => (HSL.out s hs).up (Up.trans UK.out hu)) (hrb.kept2 hu) hc hcm hn8 hc8 (hxk.up (Up.trans UK.out hu))
        have hcase : (findX sls Bs x = -1 ∧ useK opKey ks ST x = ST) ∨ ∃ i, i < ST.length ∧ findX sls Bs x = (i : Int) ∧ useK opKey ks ST x = ST.set i (some x) := by
          unfold findX useK
          cases hkey : opKey x with
          | none => exact .inl ⟨rfl, rfl⟩
          | some kk =>
            have := findK_fill ks Bs ST kk x 0 (by rw [HKS.out, List.length_map, ← HN.out, hSTl]) HY.out.at'
            rw [HKS.out] at this ⊢
            simpa using this
        obtain ⟨F, hF⟩ : ∃ F, F = findX sls Bs x := ⟨_, rfl⟩
        rw [← hF] at FD hcase
        obtain ⟨B, hB⟩ : ∃ B, B = (opCells x).toArray := ⟨_, rfl⟩
        have hBs : B.size = 7 := by rw [hB]; rfl
        rw [← hB] at FD
        have G : Hid (wr.rangeAt b (of + k * 7) B.toList) := by show wr.rangeAt _ _ _; rw [hB]; exact g
        have HBs := Lib.hid hBs
        have HFO := Lib.hid hfold
        have HCS := Lib.hid hcase
        have HXK := Lib.hid hxk2
        have HSTL := Lib.hid hSTl
        have HBL := Lib.hid hBl
        clear hB hBs hSTl hBl hST hfold hxx hxk hxk2 g hpr hkx hF hcase hrb
        go_wp2_with (first | ((with_reducible show wpList _ _ _ (Oper.mk _ (Op.load _ (Operand.tmp 50)) _ _ _ _ :: _) _ _); refine wpList_load_arr rfl 44 (.tmp 50) rfl b (of + k * 7) rfl B _ G.out rfl rfl (by rw [HBs.out]; rfl) ?_))
        refine (FD.out _ (Up.refl wr)).mono ?_
        rintro e W5 ⟨rfl, u5⟩
        have O5 := Lib.hid (HB.out.up u5)
        have V5 : Hid (Below bq W4 W5) := HV.out.trans (Up.below' u5 HBS4.out)
        clear u5 FD G
        rcases HCS.out with ⟨h1, h2⟩ | ⟨i, h1, h2, h3⟩
        · subst h1
          have d3 : decide ((0 : Int) ≤ -1) = false := by decide
          have HY2 : Hid (ByR Bs ((xs.take (k + 1)).foldl (useK opKey ks) (List.replicate k8 none)) xs) := by show ByR _ _ _; rw [HFO.out, h2]; exact HY.out
          clear HCS h2 HFO
          go_wp2_with fail
          exact ⟨⟨k + 1, Bs, by omega, by go_num, O5, HY2, V5⟩, by simp [intOf]; omega⟩
        · have hiB : i < Bs.length := by rw [HBL.out, ← HSTL.out]; exact h1
          have hik : i < k8 := by rw [← HSTL.out]; exact h1
          subst h2
          obtain ⟨hs1, ⟨old, hs2⟩, hs3⟩ := OwnI.set (x := (k : Int)) O5.out hiB
          have HY2 : Hid (ByR (Bs.set i (k : Int)) ((xs.take (k + 1)).foldl (useK opKey ks) (List.replicate k8 none)) xs) := by show ByR _ _ _; rw [HFO.out, h3]; exact HY.out.set i k x h1 HXK.out
          have HS1 := Lib.hid hs1
          have V6 : Hid (Below bq W4 (W5.setCell ⟨g8, i, none⟩ (.int .i64 k))) := by
            have a := V5.out
            exact ⟨a.os, a.tape, a.output, by simpa [World.setCell] using a.size, fun j hj => (heap_setCell_other _ _ _ _ (by show j ≠ g8; have := HG8.out; omega)).trans (a.block j hj)⟩
          clear HCS h3 HFO h1 hiB hs1 HSTL HBL
          go_wp2_with fail
          exact ⟨⟨k + 1, _, by omega, by go_num, HS1, HY2, V6⟩, by simp [intOf]; omega⟩
      have hkm : m = k := by omega
      subst hkm
      have hst : (xs.take m).foldl (useK opKey ks) (List.replicate k8 none) = revSt sls xs := by
        rw [List.take_of_length_le (by rw [← HM.out]; omega), revSt, stK, HKS.out, List.length_map, ← HN.out]
      rw [hst] at HY
      have STL : Hid ((revSt sls xs).length = k8) := by show _ = _; rw [revSt, stK_length, List.length_map, ← HN.out]
      obtain ⟨ST, hST⟩ : ∃ ST, ST = revSt sls xs := ⟨_, rfl⟩
      rw [← hST] at HY STL
      have HLF2 : Hid (LF = (outs opNo [] ST).map fun x => x.a.o) := by show _ = _; rw [hST]; exact HLF.out
      have HNF2 : Hid (NF = (sil 0 ST).map (fun n : Nat => (n : Int))) := by show _ = _; rw [hST]; exact HNF.out
      obtain ⟨W6, hW6⟩ : ∃ W6, W6 = wr := ⟨_, rfl⟩
      subst hW6
      have HRB : Hid (RowAt W6 (some ⟨g8, 0, none⟩) 1 iEnc Bs) := by
        obtain ⟨p', c', e, -, -, h3, -⟩ := HB.out.form (fun x _ => iEnc_len x)
        injection e with e1 e2 e3
        subst e1; exact h3
      have HBL : Hid (Bs.length = k8) := by show _ = _; rw [HY.out.at'.1]; exact STL.out
      clear hst hST HLF HNF HV U4 HG8 HBS HO HB HBS4
      go_wp2_with fail
      clear hlt hk
      obtain ⟨bz, hbz⟩ : ∃ b, b = W6.heap.size := ⟨_, rfl⟩
      have HBZ : Hid (bz = W6.heap.size) := hbz
      clear hbz
      go_loopw [12, 13, 14] (fun v12 v13 v14 wq => ∃ (i : Nat) (A : List OfA) (Ns seen : List Int), i ≤ k8 ∧ v14 = .int .i64 i ∧ Hid (LF = A.map OfA.o ++ (outs opNo seen (ST.drop i)).map fun x => x.a.o) ∧ Hid (NF = Ns ++ (sil i (ST.drop i)).map (fun n : Nat => (n : Int))) ∧ Hid (A.length ≤ i ∧ Ns.length ≤ i) ∧ Hid (∀ m, m ∈ seen ↔ m ∈ A.map fun a => a.o.no) ∧ Hid (OwnR wq bz 26 6 ofCells v12 A) ∧ Hid (OwnR wq bz 3 1 iEnc v13 Ns) ∧ Hid (∀ a ∈ A, LtsAt w a) ∧ Hid (Below bz W6 wq)) (fun _ _ v14 _ => k8 - (intOf v14).toNat)
      case atStart => exact ⟨0, [], [], [], by omega, rfl, HLF2, HNF2, ⟨Nat.le_refl _, Nat.le_refl _⟩, fun m => by simp, OwnR.nil, OwnR.nil, fun a ha => (by cases ha), Below.refl _ _⟩
      case round =>
        obtain ⟨i, A, Ns, seen, hi, rfl, HL, HNN, HLE, HSE, R4, R5, LA, HU⟩ := hrel
        have U6 : Hid (Up W6 wr) := by show Up _ _; unfold Up; rw [← HBZ.out]; exact HU.out
        have UW : Hid (Up w wr) := Up.trans UK.out U6.out
        have HZS : Hid (bz ≤ wr.heap.size) := by show _ ≤ _; rw [HBZ.out]; exact U6.out.size
        by_cases hlt : i < k8
        case neg =>
          have hlf : A.map OfA.o = LF := by rw [HL.out, List.drop_of_length_le (by rw [STL.out]; omega)]; simp [outs]
          have hnf : Ns = NF := by rw [HNN.out, List.drop_of_length_le (by rw [STL.out]; omega)]; simp [sil]
          obtain ⟨p4, c4, h41, h42, h43, h44, -⟩ := R4.out.form (fun x _ => ofCells_len x)
          obtain ⟨p5, c5, h51, h52, h53, h54, -⟩ := R5.out.form (fun x _ => iEnc_len x)
          subst h41 h51
          have hLT : ∀ a ∈ A, LtsAt wr a := fun a ha => (LA.out a ha).up UW.out
          subst hnf hlf
          have Q4 := Lib.hid h44
          have Q5 := Lib.hid h54
          have QL := Lib.hid hLT
          clear h44 h54 hLT HLF2 HNF2 HL HNN HSE R4 R5 LA
          go_wp2_with fail
          go_ret3
          exact ⟨p4, c4, p5, c5, A, by rw [List.length_map] <;> rfl, rfl, Q4.out, QL.out, by rw [List.length_map]; exact h42, h43, Q5.out, h52, h53, UW.out⟩
        have hit : i < ST.length := by rw [STL.out]; exact hlt
        have hib : i < Bs.length := by rw [HBL.out]; exact hlt
        have hdr := List.drop_eq_getElem_cons hit
        obtain ⟨so, hso⟩ : ∃ so, so = ST[i] := ⟨_, rfl⟩
        have hsg : ST[i]? = some so := by rw [hso]; exact List.getElem?_eq_getElem hit
        rw [← hso] at hdr
        have hbs := HY.out.at'.2 i hib hit
        rw [← hso] at hbs
        have hbo := HY.out.of i Bs[i] (List.getElem?_eq_getElem hib)
        obtain ⟨b2, o2, e2, hpq⟩ := HRB.out (by rintro rfl; simp at hib)
        injection e2 with e2
        injection e2 with e3 e4
        subst e3 e4
        have gq := rangeAt_up (hpq i hib) U6.out 0 _ rfl
        obtain ⟨bi, hbi⟩ : ∃ bi, bi = Bs[i] := ⟨_, rfl⟩
        rw [← hbi] at gq hbs hbo
        have c2 : wr.cell? ⟨g8, i, none⟩ = some (.int .i64 bi) := by simpa using gq
        have HDR := Lib.hid hdr
        have HBO := Lib.hid hbo
        have HBS := Lib.hid hbs
        have HSG := Lib.hid hsg
        have hi64 : Hid (i < 1000) := by show _ < _; omega
        clear hdr hsg hso hit hib hbs hbo hpq gq hbi
        by_cases hb : bi < 0
        case pos =>
          have d3 : decide (bi < 0) = true := by simpa using hb
          have hsn := HBS.out.1 hb
          subst hsn
          have HL2 : Hid (LF = A.map OfA.o ++ (outs opNo seen (ST.drop (i + 1))).map fun x => x.a.o) := by show _ = _; rw [HL.out, HDR.out, outs]
          have HN2 : Hid (NF = (Ns ++ [(i : Int)]) ++ (sil (i + 1) (ST.drop (i + 1))).map (fun n : Nat => (n : Int))) := by show _ = _; rw [HNN.out, HDR.out, sil]; simp
          have NI : Hid (Ns.length ≤ 1000) := by show _ ≤ _; have := HLE.out; omega
          clear HDR HSG HL HNN hb HBO HBS
          go_wp2_with (refine wpList_named ?_; intro W8 hW8; at_builtin; (have u8 : Up wr W8 := by (rw [hW8]; exact (Up.refl wr).alloc _)); (have r8 : RowAt W8 (some ⟨wr.heap.size, 0, none⟩) 1 iEnc [(i : Int)] := rowAt_block (D := #[.int .i64 (i : Int)]) (fun _ _ => rfl) rfl (by (rw [hW8]; exact heap_new rfl))); have U8 := Lib.hid u8; have R8 := Lib.hid r8; clear hW8 u8 r8; refine wpList_appR rfl (.tmp 70) (.tmp 72) eltInt (by omega) rfl rfl bz _ Ns _ 1 1 [(i : Int)] rfl rfl rfl (fun x _ => iEnc_len x) (fun x _ => iEnc_one x) (R5.out.up U8.out) R8.out (by have := NI.out; simp; omega) (Nat.le_trans HZS.out U8.out.size) ?_; intro p9 m9 c9 W9 o9 b9 g9; (have r4' : OwnR W9 bz 26 6 ofCells _ A := (R4.out.up U8.out).app (R5.out.up U8.out) g9 (by decide)); have O9 := Lib.hid o9; have R49 := Lib.hid r4'; have B9 : Hid (Below bz W6 W9) := (HU.out.trans (Up.below' U8.out HZS.out)).trans b9; clear o9 b9 g9 r4')
          exact ⟨⟨i + 1, A, Ns ++ [(i : Int)], seen, by omega, by go_num, HL2, HN2, ⟨by have := HLE.out; omega, by have := HLE.out; simp; omega⟩, HSE, R49, O9, LA, B9⟩, by simp [intOf]; omega⟩
        have d3 : decide (bi < 0) = false := by simpa using hb
        obtain ⟨k, y, rfl, hky, hsy⟩ := HBO.out (by omega)
        have hsy2 : so = some y := by rw [HSG.out] at hsy; injection hsy
        subst hsy2
        have hkx : k < xs.length := (List.getElem?_eq_some_iff.1 hky).1
        have hyx : y ∈ xs := List.mem_of_getElem? hky
        obtain ⟨b, of, rfl, hpr⟩ := HX.out (by rintro rfl; simp at hkx)
        have g := rangeAt_up (hpr k hkx) UW.out
        rw [(List.getElem?_eq_some_iff.1 hky).2] at g
        have hyl := (HXA.out y hyx).lts
        have hkm : k < m := by rw [HM.out]; exact hkx
        have gA : wr.rangeAt b (of + k * 7) (ofCells y.a).toArray.toList := fun j u hu => by
          have := g j u (by simp only [opCells]; rw [List.getElem?_append_left (by have := (List.getElem?_eq_some_iff.1 hu).1; simpa using this)]; simpa using hu)
          exact this
        have HN2 : Hid (NF = Ns ++ (sil (i + 1) (ST.drop (i + 1))).map (fun n : Nat => (n : Int))) := by show _ = _; rw [HNN.out, HDR.out, sil]
        obtain ⟨Y, hY⟩ : ∃ Y, Y = (ofCells y.a).toArray := ⟨_, rfl⟩
        have hYs : Y.size = 6 := by rw [hY]; rfl
        have hYc : Y.all (·.oneCell') = true := by
          rw [hY, Array.all_eq_true_iff_forall_mem]
          intro v hv
          exact ofCells_one _ v (by simpa using hv)
        have hY0 : Y[0]? = some (.int .i64 y.a.o.no) := by rw [hY]; rfl
        rw [← hY] at gA
        have GA := Lib.hid gA
        have HYs := Lib.hid hYs
        have HYc := Lib.hid hYc
        have HY0 := Lib.hid hY0
        have HYY := Lib.hid hY
        have HYL := Lib.hid hyl
        clear HNN HBO HBS HSG hsy hky hkx hyx g hpr hyl gA hYs hYc hY0 hY hb
        go_wp2_with (first | ((with_reducible show wpList _ _ _ (Oper.mk _ (Op.load _ (Operand.tmp 80)) _ _ _ _ :: _) _ _); refine wpList_load_arr rfl 26 (.tmp 80) rfl b (of + k * 7) rfl Y _ GA.out rfl rfl (by rw [HYs.out]; rfl) ?_) | ((with_reducible show wpList _ _ _ (Oper.mk _ (Op.store _ (Operand.tmp 15) (Operand.tmp 81)) _ _ _ _ :: _) _ _); refine wpList_store_row rfl 26 (.tmp 15) (.tmp 81) rfl _ Y rfl rfl 26 _ (heap_new rfl) (by rw [HYs.out]; rfl) (by rw [HYs.out]; rfl) HYc.out ?_; refine wpList_named ?_; intro W7 hW7; have u7 : Up wr W7 := (by rw [hW7]; exact below_setRow ((Up.refl wr).alloc _) (Nat.le_refl _) _); have x7 : W7.heap[wr.heap.size]? = some (.cells Y 26 (0, 0)) := (by rw [hW7]; exact setRow_heap _ _ _ _ _ _ (heap_new rfl)); have U7 := Lib.hid u7; have X7 := Lib.hid x7; clear hW7 u7 x7))
        obtain ⟨W9, hW9⟩ : ∃ W9, W9 = W7 := ⟨_, rfl⟩
        subst hW9
        have UW9 : Hid (Up w W9) := Up.trans UW.out U7.out
        obtain ⟨p4, c4, h41, h42, h43, h44, -⟩ := (R4.out.up U7.out).form (fun x _ => ofCells_len x)
        obtain ⟨la, hla⟩ : ∃ la, la = A.length := ⟨_, rfl⟩
        rw [← hla] at h41
        subst h41
        have Q4 := Lib.hid h44
        have HLA := Lib.hid hla
        have HLM : Hid (la ≤ 1000) := by show _ ≤ _; rw [hla]; have := HLE.out; omega
        obtain ⟨b15, hb15⟩ : ∃ b, b = wr.heap.size := ⟨_, rfl⟩
        rw [← hb15] at X7 ⊢
        have R49 := Lib.hid (R4.out.up U7.out)
        have R59 := Lib.hid (R5.out.up U7.out)
        have HZ9 : Hid (bz ≤ W9.heap.size) := Nat.le_trans HZS.out U7.out.size
        have HU9 : Hid (Below bz W6 W9) := HU.out.trans (Up.below' U7.out HZS.out)
        have hlc : la ≤ c4 := by rw [hla]; exact h42
        have hl64 : la ≤ 64 := by rw [hla]; have := HLE.out; omega
        clear h42 h44 hla hb15 R4 R5 U7 HU U6 UW HZS c2
        have HLT : Hid (i < k8) := hlt
        clear hlt
        go_loopw [16, 17] (fun v16 v17 wq => ∃ j : Nat, j ≤ la ∧ v17 = .int .i64 j ∧ v16 = .bool ((A.take j).any fun a => a.o.no == y.a.o.no) ∧ Hid (Up W9 wq)) (fun _ v17 _ => la - (intOf v17).toNat)
        case atStart => exact ⟨0, by omega, rfl, rfl, Up.refl _⟩
        case round =>
          obtain ⟨j, hj, rfl, rfl, HV⟩ := hrel
          by_cases hlt : j < la
          case pos =>
            have hjA : j < A.length := by rw [← HLA.out]; exact hlt
            obtain ⟨b12, o12, rfl, hp12⟩ := Q4.out (by rintro rfl; simp at hjA)
            have g0 : wr.cell? ⟨b12, o12 + j * 6, none⟩ = some (.int .i64 (A[j]).o.no) := by have := rangeAt_up (hp12 j hjA) HV.out 0 _ rfl; simpa using this
            have c15 : wr.cell? ⟨b15, 0, none⟩ = some (.int .i64 y.a.o.no) := (cell_of_row wr b15 0 _ _ _ ((HV.out.block _ (lt_of_block X7.out)).trans X7.out)).trans HY0.out
            have hany : (A.take (j + 1)).any (fun a => a.o.no == y.a.o.no) = ((A.take j).any (fun a => a.o.no == y.a.o.no) || (A[j].o.no == y.a.o.no)) := by
              rw [List.take_succ_eq_append_getElem hjA, List.any_append]; simp
            obtain ⟨an, han⟩ : ∃ an, an = A[j].o.no := ⟨_, rfl⟩
            rw [← han] at g0 hany
            obtain ⟨v, hv⟩ : ∃ v, v = (A.take j).any fun a => a.o.no == y.a.o.no := ⟨_, rfl⟩
            rw [← hv] at hany ⊢
            obtain ⟨bb, hbb⟩ : ∃ bb, bb = (an == y.a.o.no) := ⟨_, rfl⟩
            have e1 : (an == y.a.o.no) = bb := hbb.symm
            rw [← hbb] at hany
            have hz := Lib.hid fun (z : UpW wr.drew) => (Up.trans (Up.refl wr).drew z.up : Up wr z.w)
            have k0 : ∀ z : UpW wr.drew, z.w.cell? ⟨b12, o12 + j * 6, none⟩ = some (.int .i64 an) := fun z => cell_up g0 (hz.out z)
            have k1 : ∀ z : UpW wr.drew, z.w.cell? ⟨b15, 0, none⟩ = some (.int .i64 y.a.o.no) := fun z => cell_up c15 (hz.out z)
            have HAN := Lib.hid hany
            clear hany han hv hbb g0 c15 hp12 hjA
            haveI := UpW.some_ wr.drew
            cases v
            case true =>
              go_wp2_with fail
              refine wp_region_up_k (by kernel_rfl) (by kernel_rfl) ?_
              intro R HRR
              have HRR' := Lib.hid HRR
              clear HRR
              repeat (first | go_big_quiet_skip | (with_reducible refine wpQuiet_step (fun K hK => ?_); go_simp; with_reducible refine hK _ ?_; clear hK K))
              refine wpQuiet_nil ?_
              refine HRR'.out _ ?_
              rintro w4 ⟨z, hz4⟩
              have U4 : Hid (Up W9 w4) := by show Up _ _; rw [hz4]; exact Up.trans HV.out (hz.out z)
              clear hz4 HRR' hz k0 k1
              go_wp2_with fail
              exact ⟨⟨j + 1, by omega, by go_num, by rw [HAN.out] <;> rfl, U4⟩, by simp [intOf]; omega⟩
            case false =>
              go_wp2_with fail
              refine wp_region_up_k (by kernel_rfl) (by kernel_rfl) ?_
              intro R HRR
              have HRR' := Lib.hid HRR
              clear HRR
              repeat (first | go_big_quiet_skip | (with_reducible refine wpQuiet_step (fun K hK => ?_); go_simp; with_reducible refine hK _ ?_; clear hK K))
              refine wpQuiet_nil ?_
              refine HRR'.out _ ?_
              rintro w4 ⟨z, hz4⟩
              have U4 : Hid (Up W9 w4) := by show Up _ _; rw [hz4]; exact Up.trans HV.out (hz.out z)
              clear hz4 HRR' hz k0 k1
              go_wp2_with fail
              exact ⟨⟨j + 1, by omega, by go_num, by rw [HAN.out] <;> rfl, U4⟩, by simp [intOf]; omega⟩
          have hje : j = la := by omega
          have hAj : A.take j = A := List.take_of_length_le (by rw [← HLA.out]; omega)
          rw [hAj]
          have XR : Hid (wr.heap[b15]? = some (.cells Y 26 (0, 0))) := (HV.out.block _ (lt_of_block X7.out)).trans X7.out
          have R4r := Lib.hid (R49.out.up HV.out)
          have R5r := Lib.hid (R59.out.up HV.out)
          have HUr : Hid (Below bz W6 wr) := HU9.out.trans (Up.below' HV.out HZ9.out)
          have HZr : Hid (bz ≤ wr.heap.size) := Nat.le_trans HZ9.out HV.out.size
          have hmem : (A.any fun a => a.o.no == y.a.o.no) = decide (opNo y ∈ seen) := by
            rw [Bool.eq_iff_iff, List.any_eq_true, decide_eq_true_eq, HSE.out]
            simp [opNo]
          rw [hmem]
          clear hAj hmem HU9 R49 R59 Q4 X7 HZ9 hj
          by_cases hse : opNo y ∈ seen
          case pos =>
            rw [decide_eq_true hse]
            have HL2 : Hid (LF = A.map OfA.o ++ (outs opNo seen (ST.drop (i + 1))).map fun x => x.a.o) := by show _ = _; rw [HL.out, HDR.out, outs, if_pos hse]
            clear HL HDR hse
            go_wp2_with fail
            exact ⟨⟨i + 1, A, Ns, seen, by have := HLT.out; omega, by go_num, HL2, HN2, ⟨by have := HLE.out; omega, by have := HLE.out; omega⟩, HSE, R4r, R5r, LA, HUr⟩, by have := HLT.out; simp [intOf]; omega⟩
          rw [decide_eq_false hse]
          have HL2 : Hid (LF = (A ++ [y.a]).map OfA.o ++ (outs opNo (opNo y :: seen) (ST.drop (i + 1))).map fun x => x.a.o) := by
            show _ = _; rw [HL.out, HDR.out, outs, if_neg hse]; simp
          have HSE2 : Hid (∀ m, m ∈ opNo y :: seen ↔ m ∈ (A ++ [y.a]).map fun a => a.o.no) := fun m => by
            rw [List.map_append, List.mem_append, List.mem_cons, HSE.out]; simp [opNo, or_comm]
          have LA2 : Hid (∀ a ∈ A ++ [y.a], LtsAt w a) := fun a ha => by
            rcases List.mem_append.1 ha with ha | ha
            · exact LA.out a ha
            · rw [List.mem_singleton.1 ha]; exact HYL.out
          obtain ⟨ii, zz, hii, hzz, hi1, hi2, hi3⟩ := eltOff.info
          have HII := Lib.hid hii
          have HZZ := Lib.hid hzz
          have HI1 := Lib.hid hi1
          have HSZ : Hid (A.length ≤ 1000) := by show _ ≤ _; rw [← HLA.out]; exact HLM.out
          clear HL HDR hse HSE LA hii hzz hi1 hi2 hi3
          go_wp2_with (first | ((with_reducible show wpList _ _ _ (Oper.mk _ (Op.load _ (Operand.tmp 15)) _ _ _ _ :: _) _ _); refine wpList_load_arr rfl 26 (.tmp 15) rfl b15 0 rfl Y _ (rangeAt_row XR.out) rfl rfl (by rw [HYs.out]; rfl) ?_) | ((with_reducible show wpList _ _ _ (Oper.mk _ (Op.buildSlice _ _ _) _ _ _ _ :: _) _ _); refine wpList_buildSlice rfl 37 26 1 #[(0, .tmp 102)] rfl Y ii zz rfl HII.out HZZ.out (by rw [HI1.out]; decide) (by rw [HI1.out]; decide) (by (simp only [List.map_toArray, List.map_cons, List.map_nil]; exact fill_row (zz := zz) HI1.out (by omega) Y HYs.out)) ?_; refine wpList_named ?_; intro W8 hW8; (have u8 : Up wr W8 := by (rw [hW8]; exact (Up.refl wr).alloc _)); (have r8 : RowAt W8 (some ⟨wr.heap.size, 0, none⟩) 6 ofCells [y.a] := rowAt_block (D := Y) (fun _ _ => rfl) (by (rw [HYY.out]; simp [fl])) (by (rw [hW8]; exact heap_new rfl))); have U8 := Lib.hid u8; have R8 := Lib.hid r8; clear hW8 u8 r8) | (at_builtin; refine wpList_appR rfl (.tmp 101) (.tmp 103) eltOff (by omega) rfl rfl bz _ A _ 1 1 [y.a] rfl rfl rfl (fun x _ => ofCells_len x) (fun x _ => ofCells_one x) (R4r.out.up U8.out) R8.out (by have := HSZ.out; simp; omega) (Nat.le_trans HZr.out U8.out.size) ?_; intro p9 m9 c9 W10 o9 b9 g9; (have r5' : OwnR W10 bz 3 1 iEnc _ Ns := (R5r.out.up U8.out).app (R4r.out.up U8.out) g9 (by decide)); have O9 := Lib.hid o9; have R59 := Lib.hid r5'; have B9 : Hid (Below bz W6 W10) := (HUr.out.trans (Up.below' U8.out HZr.out)).trans b9; clear o9 b9 g9 r5'))
          exact ⟨⟨i + 1, A ++ [y.a], Ns, opNo y :: seen, by have := HLT.out; omega, by go_num, HL2, HN2, ⟨by have := HLE.out; simp; omega, by have := HLE.out; omega⟩, HSE2, O9, R59, LA2, B9⟩, by have := HLT.out; simp [intOf]; omega⟩

theorem rreveal_calls (p q : Option Addr) (n c m d : Nat) (sls : List SlA) (xs : List OpA) (w : World) (hn : n = sls.length) (hm : m = xs.length) (hc : n ≤ c) (hcm : c ≤ maxLen) (hd : m ≤ d) (hdm : d ≤ maxLen)
    (hr : RowAt w p 2 slCells sls) (hsl : ∀ s ∈ sls, SlAt w s) (hx : RowAt w q 7 opCells xs) (hxa : ∀ x ∈ xs, OpAt w x) : Calls Tryd.prog 20 #[.slice p n c, .slice q m d] w
      (RetR w (revO sls xs) (revS sls xs) (revE sls xs)) := by
  unfold revO revS
  by_cases hb : revE sls xs = 0
  · rw [if_pos hb, if_pos hb, hb]; exact rreveal_good p q n c m d sls xs w hn hm hb hc hcm hd hdm hr hsl hx hxa
  · rw [if_neg hb, if_neg hb]; exact rreveal_bad p q n c m d sls xs w hn hm hb hc hcm hd hdm hr

end Go.Proofs.YtmifpokafaiebaaDoor
