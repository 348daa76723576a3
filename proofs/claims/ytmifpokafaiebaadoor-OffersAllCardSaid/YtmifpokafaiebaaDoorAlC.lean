/- offers.Commit, with what there is to know of the digest's own block. -/
import Derived.Test.YtmifpokafaiebaaDoorAlP
namespace Go.Proofs.YtmifpokafaiebaaDoor
open Go Go.RowKit
set_option linter.unusedVariables false
set_option maxRecDepth 100000

set_option maxHeartbeats 8000000 in
theorem ocommit2_calls (a : OfA) (salt : List UInt8) (sp : Option Addr) (sc : Nat) (w : World) (h : LtsAt w a) (hsb : SB w sp salt) (ht : Tabs w) (hm0 : msgE a.o salt = 0) :
    Calls Tryd.prog 14 #[.agg (ofCells a).toArray, .slice sp salt.length sc] w (fun e w' => ∃ b, e = .returned (.tuple #[.slice (some ⟨b, 0, none⟩) 32 32, .int .i64 0]) ∧ w'.heap[b]? = some (.cells (u8s (cmtB a.o salt)).toArray 47 (0, 0)) ∧ Up w w') := by
  rw [show cmtB a.o salt = cmtL a.o salt from by rw [cmtL, if_pos hm0]]
  have MS := Lib.hid fun W (hu : Up w W) => omessage_calls a salt sp sc W (h.up hu) (hsb.up hu)
  have hAs : Hid ((ofCells a).toArray.size = 6) := rfl
  have HT := Lib.hid ht
  have HOK : Hid (msgE a.o salt = 0 → (msgL a.o salt).length ≤ 2000) := fun hm => by
    have := msgE_ok hm
    rw [msgL, if_pos hm]; exact encMsg_len this.1 this.2
  have HCM : Hid (msgE a.o salt = 0 → cmtL a.o salt = Sha.tagged ofTag.data.toList (msgL a.o salt)) := fun hm => by
    rw [cmtL, if_pos hm, msgL, if_pos hm]; rfl
  have HCN : Hid (msgE a.o salt ≠ 0 → cmtL a.o salt = []) := fun hm => by rw [cmtL, if_neg hm]
  obtain ⟨CM, hCM⟩ : ∃ CM, CM = cmtL a.o salt := ⟨_, rfl⟩
  rw [← hCM] at HCM HCN ⊢
  obtain ⟨ee, hee⟩ : ∃ ee, ee = msgE a.o salt := ⟨_, rfl⟩
  rw [← hee] at MS HOK HCM HCN hm0
  obtain ⟨M, hM⟩ : ∃ M, M = msgL a.o salt := ⟨_, rfl⟩
  rw [← hM] at MS HOK HCM
  obtain ⟨A, hA⟩ : ∃ A, A = (ofCells a).toArray := ⟨_, rfl⟩
  rw [← hA] at MS hAs ⊢
  obtain ⟨n, hn⟩ : ∃ n, n = salt.length := ⟨_, rfl⟩
  rw [← hn] at MS ⊢
  obtain ⟨mn, hmn⟩ : ∃ mn, mn = M.length := ⟨_, rfl⟩
  have HMN := Lib.hid hmn
  clear hA hee hn h hsb ht hM hmn hCM
  go_enter Tryd.func14, Tryd.ntmps14
  go_wp2_with ((with_reducible show wpList _ _ _ (Oper.mk _ (Op.load _ (Operand.tmp 2)) _ _ _ _ :: _) _ _); refine wpList_named ?_; intro W1 hW1; (have u1 : Up w W1 := by (rw [hW1]; exact (Up.refl w).alloc _)); (have xa : W1.heap[w.heap.size]? = some (.cells A 26 (0, 0)) := by (rw [hW1]; exact heap_new rfl)); have U1 := Lib.hid u1; have XA := Lib.hid xa; clear u1 xa hW1; refine wpList_load_arr rfl 26 (.tmp 2) rfl w.heap.size 0 rfl A _ (rangeAt_row XA.out) rfl rfl (by rw [hAs.out]; rfl) ?_)
  refine (MS.out W1 U1.out).mono ?_
  rintro e W2 ⟨pm, cm, rfl, sbm, hc1, hc2, u2⟩
  rw [← HMN.out] at hc1
  rw [← HMN.out]
  have U2 : Hid (Up w W2) := Up.trans U1.out u2
  have SBM := Lib.hid sbm
  have HC1 := Lib.hid hc1
  have HC2 := Lib.hid hc2
  clear u2 sbm hc1 hc2 MS XA U1 hAs
  have h0 : ee = 0 := hm0
  clear hm0
  subst h0
  have d0 : ((0 : Int) != 0) = false := by simp
  have hcm := HCM.out rfl
  have hTG := tagged_calls ofTag pm cm M W2 (by decide) (HOK.out rfl) (by rw [← HMN.out]; exact HC1.out) HC2.out SBM.out (HT.out.up U2.out).1 (HT.out.up U2.out).2
  obtain ⟨D, hD⟩ : ∃ D, D = Sha.tagged ofTag.data.toList M := ⟨_, rfl⟩
  have hDl : D.length = 32 := by rw [hD, Sha.tagged_length]
  rw [← hD] at hTG hcm
  have hcm2 := hcm.symm
  subst hcm2
  obtain ⟨E, hE⟩ : ∃ E, E = (u8s D).toArray := ⟨_, rfl⟩
  rw [← hE] at hTG
  rw [← HMN.out] at hTG
  have hEs : E.size = 32 := by rw [hE, List.size_toArray, u8s_length, hDl]
  have hEc : E.all (·.oneCell') = true := by
    rw [hE, Array.all_eq_true_iff_forall_mem]
    intro v hv
    exact u8s_one _ v (by simpa using hv)
  have HE := Lib.hid hE
  have HEs := Lib.hid hEs
  have HEc := Lib.hid hEc
  have HDL := Lib.hid hDl
  have TG := Lib.hid hTG
  clear hD hDl hTG hE hEs hEc HCM HCN HOK SBM HC1 HC2 HT HMN
  go_wp2_with fail
  refine TG.out.mono ?_
  rintro e w1 ⟨rfl, u1⟩
  have UX : Hid (Up w w1) := Up.trans U2.out u1
  clear u1 TG
  obtain ⟨bd, hbd⟩ : ∃ bd, bd = w1.heap.size := ⟨_, rfl⟩
  have HBD := Lib.hid hbd
  go_wp2_with (refine wpList_store_row rfl 47 (.tmp 7) (.tmp 18) rfl _ E rfl rfl 47 _ (heap_new rfl) (by rw [HEs.out]; rfl) (by rw [HEs.out]; rfl) HEc.out ?_; refine wpList_named ?_; intro W3 hW3; rw [← hbd]; have h3 : W3.heap[bd]? = some (.cells (u8s D).toArray 47 (0, 0)) := (by rw [hW3, hbd, ← HE.out]; exact setRow_heap _ _ _ _ _ _ (heap_new rfl)); have u3 : Up w1 W3 := (by rw [hW3]; exact below_setRow ((Up.refl w1).alloc _) (Nat.le_refl _) _); have H3 := Lib.hid h3; have U3 := Lib.hid u3; clear h3 u3 hW3 hbd)
  go_ret2
  exact ⟨bd, rfl, H3.out, Up.trans UX.out U3.out⟩

/-- a seal whose digest has a block of its own -/
structure DigB (w : World) (s : SlA) : Prop where
  len : s.dig.length = 32
  cap : s.c = 32
  blk : ∃ b, s.p = some ⟨b, 0, none⟩ ∧ w.heap[b]? = some (.cells (u8s s.dig).toArray 47 (0, 0))
theorem sb_digest {w : World} {b : Nat} {D : List UInt8} (h : w.heap[b]? = some (.cells (u8s D).toArray 47 (0, 0))) : SB w (some ⟨b, 0, none⟩) D := fun _ => by
  refine ⟨b, 0, rfl, fun i hi => ?_⟩
  rw [Nat.zero_add]
  have := cell_u8s h hi
  rw [List.getD_eq_getElem?_getD, List.getElem?_eq_getElem hi] at this
  exact this
theorem DigB.at {w : World} {s : SlA} (h : DigB w s) : SlAt w s := by
  obtain ⟨b, hp, hb⟩ := h.blk
  exact ⟨by rw [hp]; exact sb_digest hb, by rw [h.len, h.cap]; exact Nat.le_refl _, by rw [h.cap]; unfold maxLen; omega⟩
theorem DigB.up {w w' : World} {s : SlA} (h : DigB w s) (hu : Up w w') : DigB w' s := by
  obtain ⟨b, hp, hb⟩ := h.blk
  exact ⟨h.len, h.cap, b, hp, (hu.block b (lt_of_block hb)).trans hb⟩
theorem DigB.put {w w' : World} {s : SlA} {K : TypeId} {b n : Nat} {f : Lit → Option Value} (h : DigB w s) (hm : MapL w K b n f) (hg : w.grownBy w' (some b)) : DigB w' s := by
  obtain ⟨g, hp, hb⟩ := h.blk
  refine ⟨h.len, h.cap, g, hp, (hg.block g (lt_of_block hb) fun e => ?_).trans hb⟩
  injection e with e; subst e
  obtain ⟨es, c, hm⟩ := hm.isM
  rw [hm] at hb; cases hb
theorem DigB.app {w w' : World} {s : SlA} {α : Type} {enc : α → List Value} {base k : Nat} {E : TypeId} {v v' : Value} {l : List α} (h : DigB w s) (ho : OwnR w base E k enc v l) (hg : Grow w w' v v') (hE : E ≠ 47) : DigB w' s := by
  obtain ⟨g, hp, hb⟩ := h.blk
  refine ⟨h.len, h.cap, g, hp, (hg.grown.block g (lt_of_block hb) fun e => ?_).trans hb⟩
  obtain ⟨cur, hc⟩ := ho.isR g e.symm
  rw [hb] at hc
  injection hc with hc
  injection hc with h1 h2
  exact hE h2.symm
/-- a set of strings -/
def strB (L : List (List UInt8)) : Lit → Option Value
  | .string d => if d ∈ L then some (.bool true) else none
  | _ => none
theorem strB_nil : (fun _ => none : Lit → Option Value) = strB [] := by
  funext l; unfold strB; split <;> simp
theorem strB_at (L : List (List UInt8)) (d : List UInt8) (b : Bool) (h : decide (d ∈ L) = b) : (strB L (.string d)).getD (.bool false) = .bool b := by
  subst h
  show (if d ∈ L then some (Value.bool true) else none).getD (.bool false) = _
  by_cases h : d ∈ L
  · rw [if_pos h, decide_eq_true h]; rfl
  · rw [if_neg h, decide_eq_false h]; rfl
open Classical in
theorem strB_put (L : List (List UInt8)) (d : List UInt8) : (fun l => if l = .string d then some (.bool true) else strB L l) = strB (L ++ [d]) := by
  funext l
  by_cases hl : l = .string d
  · subst hl; rw [if_pos rfl]; simp [strB]
  · rw [if_neg hl]
    unfold strB
    split
    · rename_i j
      have : j ≠ d := fun e => hl (by rw [e])
      simp [this]
    · rfl
theorem AllOk.nil : AllOk [] := ⟨fun _ h => (by cases h), List.nodup_nil, List.Pairwise.nil⟩
theorem AllOk.snoc {xs : List OpA} {x : OpA} (h : AllOk xs) (h1 : msgE x.a.o x.salt = 0) (h2 : cmtB x.a.o x.salt ∉ xs.map fun x => cmtB x.a.o x.salt) (h3 : ∀ y ∈ xs, opNo y ≠ opNo x) : AllOk (xs ++ [x]) := by
  refine ⟨fun y hy => ?_, ?_, ?_⟩
  · rcases List.mem_append.1 hy with hy | hy
    · exact h.good y hy
    · rw [List.mem_singleton.1 hy]; exact h1
  · rw [List.map_append, List.nodup_append]
    refine ⟨h.dig, by simp, fun a ha b hb e => ?_⟩
    rw [List.map_cons, List.map_nil, List.mem_singleton] at hb
    exact h2 (by rw [← hb, ← e]; exact ha)
  · rw [List.pairwise_append]
    exact ⟨h.no, by simp, fun a ha b hb => by rw [List.mem_singleton.1 hb]; exact h3 a ha⟩

end Go.Proofs.YtmifpokafaiebaaDoor
