/- what the examples of chapter 8 are, plain. acequialaw08.sane. -/
import Derived.Test.YtpafambdccejnaaDoorChD
import Derived.Lib.SlBytesConst
namespace Go.Proofs.YtpafambdccejnaaDoor
open Go.RowKit
set_option linter.unusedVariables false

theorem newLk_ok {ls : List Lk} {node : Int} {l : List UInt8} (hf : Few ls) (h1 : 0 ≤ node) (h2 : node < 24) (h3 : l.length ≤ 300) : (newLk ls node l).ok :=
  ⟨⟨by show (-9223372036854775808 : Int) ≤ node; omega, by show node ≤ 9223372036854775807; omega⟩,
   ⟨by show (-9223372036854775808 : Int) ≤ (ls.length : Int); omega, by show (ls.length : Int) ≤ 9223372036854775807; have := hf.1; omega⟩, hd_len ls, h3⟩
theorem few_snoc {ls : List Lk} {x : Lk} (hf : Few ls) (h : ls.length ≤ 99) (hx : x.ok) : Few (ls ++ [x]) :=
  ⟨by simp; omega, fun y hy => by
    rcases List.mem_append.1 hy with hy | hy
    · exact hf.2 y hy
    · rw [List.mem_singleton.1 hy]; exact hx⟩
theorem few_nil : Few [] := ⟨by simp, fun x hx => by simp at hx⟩

/-- what Add adds keeps a chain a chain -/
theorem chk_add {ls : List Lk} {node : Int} {l : List UInt8} (hk : chk ls = 0) (ha : addArg ls node l = false) : chk (ls ++ [newLk ls node l]) = 0 := by
  obtain ⟨a1, a2, a3, _⟩ := addArg_false ha
  rw [chk_zero] at hk ⊢
  intro j hj
  have hnd : nd0 (ls ++ [newLk ls node l]) = if ls = [] then node else nd0 ls := by
    cases ls with
    | nil => rfl
    | cons x xs => rfl
  rcases Nat.lt_or_ge j ls.length with h | h
  · have h1 := hk j h
    have hne : ls ≠ [] := by rintro rfl; simp at h
    rw [if_neg hne] at hnd
    rw [badAt_lt h] at h1
    rw [badAt_lt hj, List.getElem_append_left h]
    unfold badL at h1 ⊢
    rw [hnd, List.take_append_of_le_length (by omega)]
    exact h1
  · have hjl : j = ls.length := by simp at hj; omega
    subst hjl
    rw [badAt_lt hj]
    have e : (ls ++ [newLk ls node l])[ls.length] = newLk ls node l := by rw [List.getElem_append_right (Nat.le_refl _)]; simp
    rw [e]
    unfold badL
    rw [decide_eq_false_iff_not, hnd, List.take_left]
    rintro (h1 | h1 | h1 | h1 | h1)
    · by_cases hne : ls = []
      · rw [if_pos hne] at h1; exact h1 rfl
      · rw [if_neg hne] at h1; exact h1 (a3 hne)
    · exact absurd h1 (by show ¬ node < 0; omega)
    · exact absurd h1 (by show ¬ 24 ≤ node; omega)
    · exact h1 rfl
    · exact h1 rfl
theorem chk_nil : chk [] = 0 := rfl

/-! ### the examples -/
def La : List Lk := [newLk [] 3 [120]]
def Lb : List Lk := La ++ [newLk La 3 [121]]
def Lc : List Lk := La ++ [newLk La 3 [122]]
theorem arg_a : addArg [] 3 [120] = false := by unfold addArg; rw [decide_eq_false_iff_not]; simp
theorem nd_a : nd0 La = 3 := rfl
theorem arg_y (l : List UInt8) (h : l.length ≤ 10) : addArg La 3 l = false := by
  unfold addArg; rw [decide_eq_false_iff_not, nd_a]; simp; omega
theorem arg_24 : addArg [] 24 [] = true := by unfold addArg; rw [decide_eq_true_iff]; simp
theorem arg_4 : addArg La 4 [] = true := by unfold addArg; rw [decide_eq_true_iff, nd_a]; simp [La]
theorem chk_a : chk La = 0 := by
  have h := chk_add (ls := []) (node := 3) (l := [120]) chk_nil arg_a
  rw [List.nil_append] at h
  unfold La; exact h
theorem chk_b : chk Lb = 0 := chk_add (ls := La) (node := 3) chk_a (arg_y _ (by simp))
theorem chk_c : chk Lc = 0 := chk_add (ls := La) (node := 3) chk_a (arg_y _ (by simp))
theorem few_a : Few La := few_snoc few_nil (by simp) (newLk_ok few_nil (by omega) (by omega) (by simp))
theorem few_b : Few Lb := few_snoc few_a (by simp [La]) (newLk_ok few_a (by omega) (by omega) (by simp))
theorem few_c : Few Lc := few_snoc few_a (by simp [La]) (newLk_ok few_a (by omega) (by omega) (by simp))
theorem apart_bc : apart Lb Lc = false := by unfold apart; rw [decide_eq_false_iff_not]; rintro ⟨_, _, h⟩; exact h rfl
theorem apart_ab : apart La Lb = false := by unfold apart; rw [decide_eq_false_iff_not]; rintro ⟨_, _, h⟩; exact h rfl
theorem apart_na : apart [] La = false := by unfold apart; rw [decide_eq_false_iff_not]; rintro ⟨h, _⟩; exact h rfl
theorem parE_bc : parE Lb Lc = 0 := by unfold parE; rw [if_pos chk_b, if_pos chk_c, apart_bc]; rfl
theorem parE_ab : parE La Lb = 0 := by unfold parE; rw [if_pos chk_a, if_pos chk_b, apart_ab]; rfl
theorem parE_na : parE [] La = 0 := by unfold parE; rw [if_pos chk_nil, if_pos chk_a, apart_na]; rfl
theorem diff_bc : diff Lb Lc = some 1 := by
  have hne : newLk La 3 [121] ≠ newLk La 3 [122] := fun h => by
    have := congrArg Lk.data h
    simp [newLk] at this
  simp [Lb, Lc, La, diff] at hne ⊢
  exact hne
theorem diff_ab : diff La Lb = none := by simp [Lb, La, diff]
theorem diff_na : diff [] La = none := rfl
/-- the link that is none -/
def lkBad : Lk := ⟨0, 1, List.replicate 32 0, []⟩
theorem chk_bad1 : chk [lkBad] = 80 := chk_bad (j := 0) (by simp) (by
  rw [badAt_lt (by simp)]; unfold badL; rw [decide_eq_true_iff]; right; right; right; left; show (1 : Int) ≠ 0; omega)
theorem chk_b1 : chk (Lb.drop 1) = 80 := chk_bad (j := 0) (by simp [Lb, La]) (by
  rw [badAt_lt (by simp [Lb, La])]; unfold badL; rw [decide_eq_true_iff]; right; right; right; left; show (1 : Int) ≠ 0; omega)
theorem few_bad : Few [lkBad] := few_snoc few_nil (by simp) ⟨⟨by decide, by decide⟩, ⟨by decide, by decide⟩, by simp [lkBad], by simp [lkBad]⟩
theorem text_a : [3, 4, 1, 6, 1, 0, 2, 32] ++ hd [] ++ [2, 1, 120] = lkText (newLk [] 3 [120]) := by
  have h : (hd []).length = 32 := hd_len []
  have e : lkText (newLk [] 3 [120]) = 3 :: (Enc.num 4 ++ ((1 :: Enc.num 6) ++ ((1 :: Enc.num 0) ++ ((2 :: (Enc.num (hd []).length ++ hd [])) ++ ((2 :: (Enc.num 1 ++ [120])) ++ []))))) := rfl
  rw [e, h, show Enc.num 4 = [4] by decide, show Enc.num 6 = [6] by decide, show Enc.num 0 = [0] by decide, show Enc.num 32 = [32] by decide, show Enc.num 1 = [1] by decide]
  simp
theorem hd_a : hd La = Sha.tagged bLink.data.toList (lkText (newLk [] 3 [120])) := rfl
theorem hd_nil : hd [] = Sha.tagged bNone.data.toList [] := rfl

/-- bytes in a block of their own -/
theorem own_row {W : World} {b n : Nat} {l : List UInt8} (hn : n = l.length) (hl : n ≤ 1000) (h : W.heap[b]? = some (.cells (u8s l).toArray 5 (0, 0))) : Own W b (.slice (some ⟨b, 0, none⟩) n n) l := by
  subst hn
  refine ⟨by rw [u8s_length]; omega, .inr ⟨b, l.length, _, rfl, Nat.le_refl _, h, Nat.le_refl _, by unfold maxLen; omega, by simp [u8s_length], ?_⟩⟩
  rw [List.take_of_length_le (by simp [u8s_length])]

end Go.Proofs.YtpafambdccejnaaDoor

namespace Go.Proofs.YtpafambdccejnaaDoor
open Go.RowKit
set_option linter.unusedVariables false

theorem addA (q : Option Addr) (m d : Nat) (W : World) (hsb : SB W q [120]) (hm : m = 1) (ht : Tabs W) :
    Calls Tryd.prog 10 #[.slice none 0 0, .int .i64 3, .slice q m d] W fun e w' => ∃ p' c', e = .returned (.tuple #[.slice p' 1 c', .int .i64 0]) ∧ Up W w' ∧ 1 ≤ c' ∧ c' ≤ maxLen ∧ Links w' p' La := by
  have := add_ok none q 0 0 m d 3 [] [120] W rfl hm few_nil (Links.nil _ _) hsb ht (Nat.le_refl _) (by unfold maxLen; omega) chk_nil arg_a
  exact this
theorem addY (k : UInt8) (p q : Option Addr) (c m d : Nat) (W : World) (hl : Links W p La) (hc : 1 ≤ c) (hcm : c ≤ maxLen) (hsb : SB W q [k]) (hm : m = 1) (ht : Tabs W) :
    Calls Tryd.prog 10 #[.slice p 1 c, .int .i64 3, .slice q m d] W fun e w' => ∃ p' c', e = .returned (.tuple #[.slice p' 2 c', .int .i64 0]) ∧ Up W w' ∧ 2 ≤ c' ∧ c' ≤ maxLen ∧ Links w' p' (La ++ [newLk La 3 [k]]) :=
  add_ok p q 1 c m d 3 La [k] W rfl hm few_a hl hsb ht hc hcm chk_a (arg_y _ (by simp))
theorem add24 (W : World) (ht : Tabs W) : Calls Tryd.prog 10 #[.slice none 0 0, .int .i64 24, .slice none 0 0] W fun e w' => e = .returned (.tuple #[.slice none 0 0, .int .i64 1]) ∧ Up W w' :=
  add_arg none none 0 0 0 0 24 [] [] W rfl rfl few_nil (Links.nil _ _) ht (Nat.le_refl _) (by unfold maxLen; omega) chk_nil arg_24
theorem add4 (p : Option Addr) (c : Nat) (W : World) (hl : Links W p La) (hc : 1 ≤ c) (hcm : c ≤ maxLen) (ht : Tabs W) : Calls Tryd.prog 10 #[.slice p 1 c, .int .i64 4, .slice none 0 0] W fun e w' => e = .returned (.tuple #[.slice none 0 0, .int .i64 1]) ∧ Up W w' :=
  add_arg p none 1 c 0 0 4 La [] W rfl rfl few_a hl ht hc hcm chk_a arg_4
theorem SB.of_marked {w : World} {b : Nat} {l : List UInt8} {t : TypeId} {fr : Nat × Nat} (h : w.heap[b]? = some (.cells (u8s l).toArray t fr)) : SB w (some ⟨b, 0, none⟩) l :=
  fun _ => ⟨_, _, rfl, fun i hi => by
    rw [cell_of_row _ _ _ _ _ _ h]
    simp [u8s, hi]⟩

theorem lkAt_prev {w : World} {b o : Nat} {x : Lk} (h : LkAt w b o x) : w.rangeAt b (o + 2) (u8s x.prev) := fun j v hv => by
  obtain ⟨cs, ⟨p, c, hcs, _⟩, hrg⟩ := h
  have hj : j < x.prev.length := by rw [← u8s_length]; exact (List.getElem?_eq_some_iff.1 hv).1
  have := hrg (2 + j) v (by rw [hcs, lkCells, show 2 + j = j + 1 + 1 by omega, List.getElem?_cons_succ, List.getElem?_cons_succ, List.getElem?_append_left (by rw [u8s_length]; exact hj)]; exact hv)
  rw [show o + 2 + j = o + (2 + j) by omega]; exact this
theorem lkAt_no {w : World} {b o : Nat} {x : Lk} (h : LkAt w b o x) : w.cell? ⟨b, o + 1, none⟩ = some (.int .i64 x.no) := by
  obtain ⟨cs, ⟨p, c, hcs, _⟩, hrg⟩ := h
  exact hrg 1 _ (by rw [hcs]; rfl)
theorem lkAt_data {w : World} {b o : Nat} {x : Lk} (hx : x.prev.length = 32) (h : LkAt w b o x) : ∃ p c, w.cell? ⟨b, o + 34, none⟩ = some (.slice p x.data.length c) ∧ SB w p x.data := by
  obtain ⟨cs, ⟨p, c, hcs, _, _, hsb⟩, hrg⟩ := h
  refine ⟨p, c, hrg 34 _ ?_, hsb⟩
  have := lk_c3 hx (D := cs.toArray) (by rw [hcs])
  simpa using this

set_option maxRecDepth 100000 in
set_option maxHeartbeats 2000000 in
theorem sane08_calls (w : World) (htab : Tabs w) : Calls Tryd.prog 8 #[] w fun e w' => e = .returned (.bool true) ∧ Up w w' := by
  have HT := Lib.hid htab
  have kc := fun (w : World) (C : Array Value) (n c : Nat) => Lib.run_convert_bytes_const (P := Tryd.prog) w 23 5 C n c Tryd.underlying23 Tryd.underlying5
  clear htab
  go_enter Tryd.func8, Tryd.ntmps8
  go_wp2_with fail
  refine calls_nm ?_
  intro W1 hW1
  obtain ⟨q1, hq1⟩ : ∃ b, b = w.heap.size := ⟨_, rfl⟩
  rw [← hq1]
  have v1 : Up w W1 := by rw [hW1]; exact (Up.refl _).alloc _
  have s1 : SB W1 (some ⟨q1, 0, none⟩) [120] := SB.of_marked (t := 5) (by rw [hW1, heap_new hq1]; rfl)
  have V1 : Hid (Up w W1) := v1
  have T1 : Hid (Tabs W1) := HT.out.up V1.out
  have S1 := Lib.hid s1
  clear hW1 hq1 v1 s1
  refine (addA _ _ _ W1 S1.out rfl T1.out).mono ?_
  rintro e w2 ⟨pa, ca, rfl, u2, ga1, ga2, ga3⟩
  have U2 : Hid (Up w w2) := Up.trans V1.out u2
  have LA2 := Lib.hid ga3
  have GA := Lib.hid (And.intro ga1 ga2)
  clear u2 ga1 ga2 ga3
  go_wp2_with fail
  refine calls_nm ?_
  intro W3 hW3
  obtain ⟨q3, hq3⟩ : ∃ b, b = w2.heap.size := ⟨_, rfl⟩
  rw [← hq3]
  have v3 : Up w2 W3 := by rw [hW3]; exact (Up.refl _).alloc _
  have s3 : SB W3 (some ⟨q3, 0, none⟩) [121] := SB.of_marked (t := 5) (by rw [hW3, heap_new hq3]; rfl)
  have V3 : Hid (Up w W3) := Up.trans U2.out v3
  have T3 : Hid (Tabs W3) := HT.out.up V3.out
  have S3 := Lib.hid s3
  have LA3 : Hid (Links W3 pa La) := LA2.out.up v3
  clear hW3 hq3 v3 s3
  refine (addY 121 pa _ ca _ _ W3 LA3.out GA.out.1 GA.out.2 S3.out rfl T3.out).mono ?_
  rintro e w4 ⟨pb, cb, rfl, u4, h1, h2, h3⟩
  have U4 : Hid (Up w w4) := Up.trans V3.out u4
  have LA4 : Hid (Links w4 pa La) := LA3.out.up u4
  have LB4 : Hid (Links w4 pb Lb) := h3
  have GB := Lib.hid (And.intro h1 h2)
  clear u4 h1 h2 h3
  go_wp2_with fail
  refine calls_nm ?_
  intro W5 hW5
  obtain ⟨q5, hq5⟩ : ∃ b, b = w4.heap.size := ⟨_, rfl⟩
  rw [← hq5]
  have v5 : Up w4 W5 := by rw [hW5]; exact (Up.refl _).alloc _
  have s5 : SB W5 (some ⟨q5, 0, none⟩) [122] := SB.of_marked (t := 5) (by rw [hW5, heap_new hq5]; rfl)
  have V5 : Hid (Up w W5) := Up.trans U4.out v5
  have T5 : Hid (Tabs W5) := HT.out.up V5.out
  have S5 := Lib.hid s5
  have V5w : Hid (Up w4 W5) := v5
  have LA5 : Hid (Links W5 pa La) := LA4.out.up v5
  clear hW5 hq5 v5 s5
  refine (addY 122 pa _ ca _ _ W5 LA5.out GA.out.1 GA.out.2 S5.out rfl T5.out).mono ?_
  rintro e w6 ⟨pc, cc, rfl, u6, h1, h2, h3⟩
  have U6 : Hid (Up w w6) := Up.trans V5.out u6
  have LA6 : Hid (Links w6 pa La) := LA5.out.up u6
  have LC6 : Hid (Links w6 pc Lc) := h3
  have GC := Lib.hid (And.intro h1 h2)
  have LB6 : Hid (Links w6 pb Lb) := LB4.out.up (Up.trans (show Up w4 W5 from V5w.out) u6)
  clear u6 h1 h2 h3
  go_wp2_with fail
  refine (add24 w6 (HT.out.up U6.out)).mono ?_
  rintro e w7 ⟨rfl, u7⟩
  have U7 : Hid (Up w w7) := Up.trans U6.out u7
  have X7 : Hid (Up w6 w7) := u7
  clear u7
  go_wp2_with fail
  refine (add4 pa ca w7 (LA6.out.up X7.out) GA.out.1 GA.out.2 (HT.out.up U7.out)).mono ?_
  rintro e w8 ⟨rfl, u8⟩
  have U8 : Hid (Up w w8) := Up.trans U7.out u8
  have X8 : Hid (Up w6 w8) := Up.trans X7.out u8
  clear u8
  go_wp2_with fail
  have PB := part_calls pb pc 2 2 cb cc Lb Lc w8 rfl rfl few_b few_c (LB6.out.up X8.out) (LC6.out.up X8.out) (HT.out.up U8.out) GB.out.1 GB.out.2 GC.out.1 GC.out.2
  have eI : parI Lb Lc = 1 := by unfold parI; rw [if_pos parE_bc, diff_bc]; rfl
  have eB : parB Lb Lc = true := by unfold parB; rw [if_pos parE_bc, diff_bc]; rfl
  rw [parE_bc, eI, eB] at PB
  refine PB.mono ?_
  clear PB eI eB
  rintro e w9 ⟨rfl, u9⟩
  have U9 : Hid (Up w w9) := Up.trans U8.out u9
  have X9 : Hid (Up w6 w9) := Up.trans X8.out u9
  clear u9
  go_wp2_with fail
  have PB := part_calls pa pb 1 2 ca cb La Lb w9 rfl rfl few_a few_b (LA6.out.up X9.out) (LB6.out.up X9.out) (HT.out.up U9.out) GA.out.1 GA.out.2 GB.out.1 GB.out.2
  have eI : parI La Lb = 0 := by unfold parI; rw [if_pos parE_ab, diff_ab]; rfl
  have eB : parB La Lb = false := by unfold parB; rw [if_pos parE_ab, diff_ab]; rfl
  rw [parE_ab, eI, eB] at PB
  refine PB.mono ?_
  clear PB eI eB
  rintro e w10 ⟨rfl, u10⟩
  have U10 : Hid (Up w w10) := Up.trans U9.out u10
  have X10 : Hid (Up w6 w10) := Up.trans X9.out u10
  clear u10
  go_wp2_with fail
  have PB := part_calls none pa 0 1 0 ca [] La w10 rfl rfl few_nil few_a (Links.nil _ _) (LA6.out.up X10.out) (HT.out.up U10.out) (Nat.le_refl _) (by unfold maxLen; omega) GA.out.1 GA.out.2
  have eI : parI [] La = 0 := by unfold parI; rw [if_pos parE_na, diff_na]; rfl
  have eB : parB [] La = false := by unfold parB; rw [if_pos parE_na, diff_na]; rfl
  rw [parE_na, eI, eB] at PB
  refine PB.mono ?_
  clear PB eI eB
  rintro e w11 ⟨rfl, u11⟩
  have U11 : Hid (Up w w11) := Up.trans U10.out u11
  have X11 : Hid (Up w6 w11) := Up.trans X10.out u11
  clear u11
  go_wp2_with fail
  have PB := chCheck_calls none 0 0 [] w11 rfl few_nil (Links.nil _ _) (HT.out.up U11.out) (Nat.le_refl _) (by unfold maxLen; omega)
  rw [chk_nil] at PB
  refine PB.mono ?_
  clear PB
  rintro e w12 ⟨rfl, u12⟩
  have U12 : Hid (Up w w12) := Up.trans U11.out u12
  have X12 : Hid (Up w6 w12) := Up.trans X11.out u12
  clear u12
  go_wp2_with fail
  have PB := chCheck_calls pb 2 cb Lb w12 rfl few_b (LB6.out.up X12.out) (HT.out.up U12.out) GB.out.1 GB.out.2
  rw [chk_b] at PB
  refine PB.mono ?_
  clear PB
  rintro e w13 ⟨rfl, u13⟩
  have U13 : Hid (Up w w13) := Up.trans U12.out u13
  have X13 : Hid (Up w6 w13) := Up.trans X12.out u13
  clear u13
  go_wp2_with fail
  refine calls_nm ?_
  intro W14 hW14
  obtain ⟨q14, hq14⟩ : ∃ b, b = w13.heap.size := ⟨_, rfl⟩
  rw [← hq14]
  have v14 : Up w13 W14 := by rw [hW14]; exact (Up.refl _).alloc _
  have y14 : W14.heap[q14]? = some (.cells (lkCells lkBad none 0).toArray 37 (0, 0)) := by rw [hW14, heap_new hq14]; rfl
  have l14 : Links W14 (some ⟨q14, 0, none⟩) [lkBad] := fun _ => ⟨q14, 0, rfl, fun i hi => by
    have : i = 0 := by simpa using hi
    subst this
    exact ⟨_, ⟨none, 0, rfl, by simp [lkBad], by unfold maxLen; omega, fun h => absurd rfl h⟩, by have := rangeAt_row y14; simpa using this⟩⟩
  have U14 : Hid (Up w W14) := Up.trans U13.out v14
  have X14 : Hid (Up w6 W14) := Up.trans X13.out v14
  have PB := chCheck_calls (some ⟨q14, 0, none⟩) 1 1 [lkBad] W14 rfl few_bad l14 (HT.out.up U14.out) (Nat.le_refl _) (by unfold maxLen; omega)
  rw [chk_bad1] at PB
  clear hW14 hq14 v14 y14 l14
  refine PB.mono ?_
  clear PB
  rintro e w15 ⟨rfl, u15⟩
  have U15 : Hid (Up w w15) := Up.trans U14.out u15
  have X15 : Hid (Up w6 w15) := Up.trans X14.out u15
  clear u15
  obtain ⟨bb, ob, rfl, hbat⟩ := LB6.out (by simp [Lb, La])
  obtain ⟨ba, oa, rfl, haat⟩ := LA6.out (by simp [La])
  have HBAT := Lib.hid hbat
  have HAAT := Lib.hid haat
  have hcb : 2 ≤ cb := GB.out.1
  have hcb1 : (1 : Int) < cb := by omega
  have hcb2 : (1 : Int) ≤ cb := by omega
  clear hbat haat
  go_wp2_with fail
  have PB := chCheck_calls (some ⟨bb, ob + 1 * 35, none⟩) 1 (cb - 1) (Lb.drop 1) w15 rfl (few_b.drop 1) ((LB6.out.up X15.out).drop 1) (HT.out.up U15.out) (by omega) (by have := GB.out.2; omega)
  rw [chk_b1] at PB
  refine PB.mono ?_
  clear PB hcb1 hcb2
  rintro e w16 ⟨rfl, u16⟩
  have U16 : Hid (Up w w16) := Up.trans U15.out u16
  have X16 : Hid (Up w6 w16) := Up.trans X15.out u16
  clear u16
  go_wp2_with fail
  refine (tagged_calls bNone none 0 [] w16 (by decide) (by simp) (by simp) (by unfold maxLen; omega) (fun h => absurd rfl h) (HT.out.up U16.out).1 (HT.out.up U16.out).2).mono ?_
  rintro e w17 ⟨rfl, u17⟩
  have U17 : Hid (Up w w17) := Up.trans U16.out u17
  have X17 : Hid (Up w6 w17) := Up.trans X16.out u17
  clear u17
  rw [← hd_nil]
  have hsl := hd_len []
  obtain ⟨S, hS⟩ : ∃ S, S = (u8s (hd [])).toArray := ⟨_, rfl⟩
  rw [← hS]
  have hSs : S.size = 32 := by rw [hS, u8s_arr, hsl]
  have hSc : S.all (·.oneCell') = true := by rw [hS]; exact u8s_all _
  have HS := Lib.hid hS
  have HSs := Lib.hid hSs
  have HSc := Lib.hid hSc
  clear hsl hS hSs hSc
  go_wp2_with (first | (refine wpList_allocG rfl 35 32 allocsDigest rfl ?_; intro W18 u18 z18 hz18; obtain ⟨Z18, hZ18, hb18⟩ := hz18; have V18 := Lib.hid u18; have HZ18 := Lib.hid hZ18; have HB18 := Lib.hid hb18; clear u18 z18 hZ18 hb18) | ((with_reducible show wpList _ _ _ (Oper.mk _ (Op.store _ (Operand.tmp 20) _) _ _ _ _ :: _) _ _); refine wpList_store_row rfl 35 (.tmp 20) (.tmp 149) rfl _ S rfl rfl 35 _ HB18.out (by rw [HSs.out]; rfl) (by rw [HZ18.out, HSs.out]) HSc.out ?_; refine wpList_named ?_; intro W19 hW19; have v19 := setRow_upN hW19 V18.out (Nat.le_refl _); have y19 := setRow_named hW19 HB18.out; have V19 := Lib.hid v19; have Y19 := Lib.hid y19; clear hW19 v19 y19) | ((with_reducible show wpList _ _ _ (Oper.mk _ (Op.call (Call.mk _ #[Operand.tmp 150, Operand.tmp 151] _)) _ _ _ _ :: _) _ _); refine wpList_named ?_; intro W20 hW20; (have v20 : Up W19 W20 := by (rw [hW20]; exact (Up.refl _).alloc _)); (have o20 : Own W20 W19.heap.size (.slice (some ⟨W19.heap.size, 0, none⟩) 8 8) [3, 4, 1, 6, 1, 0, 2, 32] := own_row rfl (by omega) (by rw [hW20, heap_new rfl]; rfl)); have HV20 := Lib.hid v20; have HO20 := Lib.hid o20; (have hsb20 : SB W20 (some ⟨w17.heap.size, 0, none⟩) (hd []) := SB.of_digest (t := 35) (by rw [← HS.out]; exact (v20.block _ (lt_of_block Y19.out)).trans Y19.out)); have HSB20 := Lib.hid hsb20; clear hW20 v20 o20 hsb20; refine wpList_app rfl (.tmp 150) (.tmp 151) rfl rfl W19.heap.size _ [3, 4, 1, 6, 1, 0, 2, 32] _ 32 _ (hd []) rfl rfl (hd_len []).symm HO20.out HSB20.out (by rw [hd_len]; decide) HV20.out.size ?_; intro v21 w21 o21 b21; have O21 := Lib.hid o21; have B21 := Lib.hid b21; clear o21 b21) | ((with_reducible show wpList _ _ _ (Oper.mk _ (Op.call (Call.mk _ #[Operand.tmp 152, Operand.tmp 153] _)) _ _ _ _ :: _) _ _); refine wpList_named ?_; intro W22 hW22; (have v22 : Up w21 W22 := by (rw [hW22]; exact (Up.refl _).alloc _)); (have s22 : SB W22 (some ⟨w21.heap.size, 0, none⟩) [2, 1, 120] := SB.of_digest (t := 5) (by rw [hW22, heap_new rfl]; rfl)); have HV22 := Lib.hid v22; have HS22 := Lib.hid s22; clear hW22 v22 s22; refine wpList_app rfl (.tmp 152) (.tmp 153) rfl rfl W19.heap.size _ ([3, 4, 1, 6, 1, 0, 2, 32] ++ hd []) _ 3 _ [2, 1, 120] rfl rfl rfl (O21.out.up HV22.out) HS22.out (by rw [List.length_append, hd_len]; decide) (Nat.le_trans (Nat.le_trans HV20.out.size B21.out.size) HV22.out.size) ?_; intro v23 w23 o23 b23; have O23 := Lib.hid o23; have B23 := Lib.hid b23; clear o23 b23))
  have uq : Up W19 w23 := Below.trans HV20.out (B21.out.trans ((HV22.out.mono (Nat.le_trans HV20.out.size B21.out.size)).trans B23.out))
  have U19 : Hid (Up w W19) := Up.trans U17.out V19.out
  have U23 : Hid (Up w w23) := Up.trans U19.out uq
  have X23 : Hid (Up w6 w23) := Up.trans X17.out (Up.trans V19.out uq)
  have Y23 : Hid (w23.heap[w17.heap.size]? = some (.cells S 35 (0, 0))) := (uq.block _ (lt_of_block Y19.out)).trans Y19.out
  have o23 := O23.out
  rw [text_a] at o23
  have htl := lkText_len (x := newLk [] 3 [120]) (newLk_ok few_nil (by omega) (by omega) (by simp))
  obtain ⟨pt, ct, hv23, t1, t2, t3⟩ := o23.form
  obtain ⟨lt, hlt⟩ : ∃ l, l = lkText (newLk [] 3 [120]) := ⟨_, rfl⟩
  rw [← hlt] at hv23 t1 t3 htl
  subst hv23
  obtain ⟨bs, hbs⟩ : ∃ b, b = w17.heap.size := ⟨_, rfl⟩
  rw [← hbs] at Y23
  rw [← hbs]
  obtain ⟨mt, hmt⟩ : ∃ m, m = lt.length := ⟨_, rfl⟩
  have hal := hd_len La
  have HDA : Hid ((u8s (Sha.tagged bLink.data.toList lt)).toArray = (u8s (hd La)).toArray) := by show _ = _; rw [hlt]; rfl
  have TG := Lib.hid fun W (hu : Up w23 W) => tagged_calls bLink pt ct lt W (by decide) htl t1 t2 (t3.up hu) (HT.out.up (Up.trans U23.out hu)).1 (HT.out.up (Up.trans U23.out hu)).2
  rw [HDA.out, ← hmt] at TG
  rw [← hmt]
  have HDN := Lib.hid fun W (hu : Up w23 W) => head_calls none 0 0 [] W rfl few_nil (Links.nil _ _) (HT.out.up (Up.trans U23.out hu))
  rw [← HS.out] at HDN
  have HDL := Lib.hid fun W (hu : Up w23 W) => head_calls (some ⟨ba, oa, none⟩) 1 ca La W rfl few_a (LA6.out.up (Up.trans X23.out hu)) (HT.out.up (Up.trans U23.out hu))
  obtain ⟨A, hA⟩ : ∃ A, A = (u8s (hd La)).toArray := ⟨_, rfl⟩
  rw [← hA] at TG HDL
  unfold bLink at TG
  have hsn := hd_len []
  have eqS : ∀ w : World, (Op.equalIn 10000 35 (.agg S) (.agg S)).run Tryd.prog w = .ok true w := fun w => by rw [HS.out, run_equalIn_digest 9998 _ _ w hsn hsn]; simp
  have eqA : ∀ w : World, (Op.equalIn 10000 35 (.agg A) (.agg A)).run Tryd.prog w = .ok true w := fun w => by rw [hA, run_equalIn_digest 9998 _ _ w hal hal]; simp
  -- the first link of a, the second of b
  have la0 := HAAT.out 0 (by simp [La])
  have lb1 := HBAT.out 1 (by simp [Lb, La])
  rw [show La[0]'(by simp [La]) = newLk [] 3 [120] from rfl] at la0
  rw [show Lb[1]'(by simp [Lb, La]) = newLk La 3 [121] from rfl] at lb1
  have pa0 := lkAt_prev la0
  have pb1 := lkAt_prev lb1
  have nb1 := lkAt_no lb1
  obtain ⟨pd, cd, hb34, hsd⟩ := lkAt_data (hd_len La) lb1
  rw [show (newLk [] 3 [120]).prev = hd [] from rfl] at pa0
  rw [show (newLk La 3 [121]).prev = hd La from rfl] at pb1
  rw [show (newLk La 3 [121]).no = 1 from rfl] at nb1
  rw [show (newLk La 3 [121]).data = [121] from rfl] at hb34 hsd
  have hpa : w6.rangeAt ba (oa + 2) S.toList := by rw [HS.out]; simpa using pa0
  have hpb : w6.rangeAt bb (ob + 1 * 35 + 2) A.toList := by rw [hA]; exact pb1
  have hAs : A.size = 32 := by rw [hA, u8s_arr]; exact hal
  have HAS := Lib.hid hAs
  have hu := fun (z : UpW w23.drew) => Up.trans X23.out (Up.trans (Up.refl w23).drew z.up)
  have R1 := Lib.hid fun (z : UpW w23.drew) => rangeAt_up hpa (hu z)
  have R2 := Lib.hid fun (z : UpW w23.drew) => rangeAt_up hpb (hu z)
  have RS := Lib.hid fun (z : UpW w23.drew) => (rangeAt_row ((z.block (lt_of_block (w := w23.drew) Y23.out)).trans Y23.out) : z.w.rangeAt bs 0 S.toList)
  have k1 : ∀ z : UpW w23.drew, z.w.cell? ⟨bb, ob + 35 + 1, none⟩ = some (.int .i64 1) := fun z => by
    have := ((hu z).below.cell (p := ⟨bb, ob + 1 * 35 + 1, none⟩) (block_lt_of_cell nb1)).trans nb1
    simpa using this
  have k34 : ∀ z : UpW w23.drew, z.w.cell? ⟨bb, ob + 35 + 34, none⟩ = some (.slice pd 1 cd) := fun z => by
    have := ((hu z).below.cell (p := ⟨bb, ob + 1 * 35 + 34, none⟩) (block_lt_of_cell hb34)).trans hb34
    simpa using this
  have hcv : ∀ z : UpW w23.drew, (convert 23 9 (.slice pd 1 cd)).run Tryd.prog z.w = .ok (.string ⟨#[121]⟩) z.w := fun z => run_text_of z.w pd cd [121] (hsd.up (hu z))
  have UX := Lib.hid fun (z : UpW w23.drew) => Up.trans (Up.refl w23).drew z.up
  haveI := UpW.some_ w23.drew
  clear uq o23 htl t1 t2 t3 hlt hbs hmt hal hA hsn la0 lb1 pa0 pb1 nb1 hb34 hsd hpa hpb hAs hu kc
  refine wp_region_up_k (by kernel_rfl) (by kernel_rfl) ?_
  intro R hR
  repeat (first | ((with_reducible show wpQuiet _ _ _ _ (Oper.mk _ (Op.load _ (Operand.tmp 157)) _ _ _ _ :: _) _); refine wpQuiet_load_arr (by rfl) 35 (.tmp 157) rfl ba (oa + 2) rfl S _ (fun w' hw' => by (obtain ⟨z, rfl⟩ := hw'; exact R1.out z)) rfl rfl (by rw [HSs.out]; rfl) ?_) | ((with_reducible show wpQuiet _ _ _ _ (Oper.mk _ (Op.load _ (Operand.tmp 20)) _ _ _ _ :: _) _); refine wpQuiet_load_arr (by rfl) 35 (.tmp 20) rfl bs 0 rfl S _ (fun w' hw' => by (obtain ⟨z, rfl⟩ := hw'; exact RS.out z)) rfl rfl (by rw [HSs.out]; rfl) ?_) | ((with_reducible show wpQuiet _ _ _ _ (Oper.mk _ (Op.load _ (Operand.tmp 176)) _ _ _ _ :: _) _); refine wpQuiet_load_arr (by rfl) 35 (.tmp 176) rfl bb (ob + 1 * 35 + 2) (by rfl) A _ (fun w' hw' => by (obtain ⟨z, rfl⟩ := hw'; exact R2.out z)) rfl rfl (by rw [HAS.out]; rfl) ?_) | go_big_quiet_step (fail) | quiet_step ((first | (go_at_call 15; with_reducible exact Calls.quiet_up (HDN.out _ (UX.out _))) | (go_at_call 15; with_reducible exact Calls.quiet_up (HDL.out _ (UX.out _))) | (go_at_call 19; with_reducible exact Calls.quiet_up (TG.out _ (UX.out _))))))
  refine wpQuiet_nil (hR _ ?_)
  clear hR R k1 k34 hcv eqS eqA
  rintro w24 ⟨z, hz⟩
  have U24 : Hid (Up w w24) := by show Up w w24; rw [hz]; exact Up.trans U23.out (UX.out z)
  clear hz
  go_wp2_with fail
  go_ret
  exact ⟨rfl, U24.out⟩

end Go.Proofs.YtpafambdccejnaaDoor
