/- ROWS OF SHARES; the tree, plain; proofs.tree. proofs.tree. proofs.check. proofs.Root. -/
import Derived.Test.YtobcfhninchnkaaDoorPfA
import Derived.Test.YtobcfhninchnkaaDoorBits
import Derived.Laws.ResultCell
namespace Go.Proofs.YtobcfhninchnkaaDoor
open Go.RowKit
set_option linter.unusedVariables false
set_option maxRecDepth 100000

/-- from this address on lie these shares -/
def Shares (w : World) (p : Option Addr) (ls : List Sh) : Prop := ls ≠ [] → ∃ b o, p = some ⟨b, o, none⟩ ∧ ∀ i (h : i < ls.length), w.rangeAt b (o + i * 5) (shCells ls[i]).toList
theorem Shares.up {w w' : World} {p : Option Addr} {ls : List Sh} (h : Shares w p ls) (hu : Up w w') : Shares w' p ls := fun hne => by
  obtain ⟨b, o, e, hi⟩ := h hne
  exact ⟨b, o, e, fun i h => rangeAt_up (hi i h) hu⟩
theorem Shares.nil (w : World) (p : Option Addr) : Shares w p [] := fun h => absurd rfl h
theorem Shares.take {w : World} {p : Option Addr} {ls : List Sh} (h : Shares w p ls) (n : Nat) : Shares w p (ls.take n) := fun hne => by
  have hne' : ls ≠ [] := fun e => hne (by rw [e]; simp)
  obtain ⟨b, o, e, hi⟩ := h hne'
  refine ⟨b, o, e, fun i hlt => ?_⟩
  have : i < ls.length := by simp at hlt; omega
  rw [List.getElem_take]
  exact hi i this
theorem Shares.drop {w : World} {b o : Nat} {ls : List Sh} (h : Shares w (some ⟨b, o, none⟩) ls) (n : Nat) : Shares w (some ⟨b, o + n * 5, none⟩) (ls.drop n) := fun hne => by
  have hne' : ls ≠ [] := fun e => hne (by rw [e]; simp)
  obtain ⟨b', o', e, hi⟩ := h hne'
  injection e with e
  injection e with e1 e2
  subst e1 e2
  refine ⟨b, o + n * 5, rfl, fun i hlt => ?_⟩
  have h2 : n + i < ls.length := by simp at hlt; omega
  rw [List.getElem_drop, show o + n * 5 + i * 5 = o + (n + i) * 5 by rw [Nat.add_mul, Nat.add_assoc]]
  exact hi (n + i) h2

theorem hf_lt {n : Nat} (h : 2 ≤ n) : hf n < n := by
  unfold hf
  have := Nat.log2_self_le (n := n - 1) (by omega)
  omega
theorem hf_pos (n : Nat) : 0 < hf n := by unfold hf; exact Nat.pow_pos (by omega)

/-- the tree of some shares -/
def treeS (l : List Sh) : Sm :=
  match l with
  | [] => ⟨[], 0, 0, 0⟩
  | [x] => leafS x
  | x :: y :: r => nodeS (treeS ((x :: y :: r).take (hf (r.length + 2)))) (treeS ((x :: y :: r).drop (hf (r.length + 2))))
termination_by l.length
decreasing_by
  · have := hf_lt (n := r.length + 2) (by omega)
    simp only [List.length_take, List.length_cons]; omega
  · have := hf_pos (r.length + 2)
    simp only [List.length_drop, List.length_cons]; omega
theorem treeS_one (x : Sh) : treeS [x] = leafS x := by rw [treeS]
theorem treeS_two {l : List Sh} (h : 2 ≤ l.length) : treeS l = nodeS (treeS (l.take (hf l.length))) (treeS (l.drop (hf l.length))) := by
  match l, h with
  | x :: y :: r, _ => rw [treeS]; rfl
def sumOf (f : Sh → Int) (l : List Sh) : Int := (l.map f).sum
theorem sumOf_split (f : Sh → Int) (l : List Sh) (k : Nat) : sumOf f (l.take k) + sumOf f (l.drop k) = sumOf f l := by
  unfold sumOf
  rw [← List.sum_append, ← List.map_append, List.take_append_drop]
theorem treeS_sums : ∀ (n : Nat) (l : List Sh), l.length = n → l ≠ [] → (treeS l).hash.length = 32 ∧ (treeS l).litres = sumOf Sh.litres l ∧ (treeS l).price = sumOf Sh.price l ∧ (treeS l).cut = sumOf Sh.cut l := by
  intro n
  induction n using Nat.strongRecOn with
  | ind n ih =>
    intro l hl hne
    rcases Nat.lt_or_ge l.length 2 with h | h
    · match l, hne, h with
      | [x], _, _ => rw [treeS_one]; exact ⟨Sha.sum_length _, by simp [sumOf, leafS], by simp [sumOf, leafS], by simp [sumOf, leafS]⟩
    · have h1 := hf_lt h
      have h2 := hf_pos l.length
      have a := ih (hf l.length) (by omega) (l.take (hf l.length)) (by simp; omega) (fun e => by have := congrArg List.length e; rw [List.length_take, List.length_nil] at this; omega)
      have b := ih (l.length - hf l.length) (by omega) (l.drop (hf l.length)) (by simp) (fun e => by have := congrArg List.length e; rw [List.length_drop, List.length_nil] at this; omega)
      rw [treeS_two h]
      refine ⟨Sha.sum_length _, ?_, ?_, ?_⟩
      · show _ + _ = _; rw [a.2.1, b.2.1, sumOf_split]
      · show _ + _ = _; rw [a.2.2.1, b.2.2.1, sumOf_split]
      · show _ + _ = _; rw [a.2.2.2, b.2.2.2, sumOf_split]
theorem sumOf_le (f : Sh → Int) (M : Int) : ∀ l : List Sh, (∀ x ∈ l, 0 ≤ f x ∧ f x ≤ M) → 0 ≤ sumOf f l ∧ sumOf f l ≤ l.length * M
  | [], _ => by simp [sumOf]
  | x :: r, h => by
    have h1 := sumOf_le f M r fun y hy => h y (List.mem_cons_of_mem _ hy)
    have h2 := h x List.mem_cons_self
    have e : sumOf f (x :: r) = f x + sumOf f r := by simp [sumOf]
    have e2 : (((x :: r).length : Nat) : Int) * M = (r.length : Int) * M + M := by simp [Int.add_mul]
    rw [e, e2]
    omega

end Go.Proofs.YtobcfhninchnkaaDoor

namespace Go.Proofs.YtobcfhninchnkaaDoor
open Go.RowKit
set_option linter.unusedVariables false
set_option maxRecDepth 100000

theorem fineB_wf {x : Sh} (h : fineB x = true) : x.wf ∧ (0 ≤ x.litres ∧ x.litres ≤ 1099511627776) ∧ (0 ≤ x.price ∧ x.price ≤ 1099511627776) ∧ (0 ≤ x.cut ∧ x.cut ≤ 1099511627776) := by
  simp only [fineB, inB, Bool.and_eq_true, decide_eq_true_eq] at h
  obtain ⟨⟨⟨⟨h1, h2⟩, h3⟩, h4⟩, h5⟩ := h
  exact ⟨⟨⟨by omega, by omega⟩, ⟨by omega, by omega⟩, ⟨by omega, by omega⟩, ⟨by omega, by omega⟩, ⟨by omega, by omega⟩⟩, h2, h3, h4⟩
theorem treeS_ok {l : List Sh} (hne : l ≠ []) (hn : l.length ≤ 700) (hf : ∀ x ∈ l, fineB x = true) : (treeS l).ok := by
  obtain ⟨h1, h2, h3, h4⟩ := treeS_sums l.length l rfl hne
  have a := sumOf_le Sh.litres 1099511627776 l fun x hx => (fineB_wf (hf x hx)).2.1
  have b := sumOf_le Sh.price 1099511627776 l fun x hx => (fineB_wf (hf x hx)).2.2.1
  have c := sumOf_le Sh.cut 1099511627776 l fun x hx => (fineB_wf (hf x hx)).2.2.2
  exact ⟨h1, by rw [h2]; omega, by rw [h3]; omega, by rw [h4]; omega⟩

set_option maxHeartbeats 2000000 in
theorem tree_calls : ∀ (k : Nat) (p : Option Addr) (n c : Nat) (ls : List Sh) (w : World), n = k → n = ls.length → 1 ≤ n → n ≤ 700 → (∀ x ∈ ls, fineB x = true) → Shares w p ls → n ≤ c → c ≤ maxLen → Tabs w →
    Calls Tryd.prog 25 #[.slice p n c] w fun e w' => e = .returned (.agg (smCells (treeS ls)).toArray) ∧ Up w w' := by
  intro k
  induction k using Nat.strongRecOn with
  | ind k ih =>
    intro p n c ls w hk hn h1 hn7 hfi hsh hc hcm htab
    have hok := treeS_ok (l := ls) (by rintro rfl; simp at hn; omega) (by omega) hfi
    have hDs : (smCells (treeS ls)).toArray.size = 35 := by have := smCells_len (s := treeS ls) hok.hash; simpa using this
    have hDc := smCells_all (treeS ls)
    obtain ⟨D, hD⟩ : ∃ D, D = (smCells (treeS ls)).toArray := ⟨_, rfl⟩
    rw [← hD] at hDs hDc ⊢
    have HDE := Lib.hid hD
    have HDs := Lib.hid hDs
    have HDc := Lib.hid hDc
    have HT := Lib.hid htab
    clear hDs hDc htab
    obtain ⟨b, o, rfl, hrg⟩ := hsh (by rintro rfl; simp at hn; omega)
    by_cases h2 : n = 1
    case pos =>
      subst h2
      obtain ⟨x, rfl⟩ : ∃ x, ls = [x] := List.length_eq_one_iff.1 hn.symm
      clear hn
      have hx := (fineB_wf (hfi x (by simp))).1
      have LF := Lib.hid fun W (hu : Up w W) => leaf_calls x hx W (HT.out.up hu)
      rw [← treeS_one x, ← hD] at LF
      have g := hrg 0 (by simp)
      simp only [Nat.zero_mul, Nat.add_zero, List.getElem_cons_zero] at g
      have G := Lib.hid g
      have hAs : (shCells x).size = 5 := rfl
      obtain ⟨A, hA⟩ : ∃ A, A = shCells x := ⟨_, rfl⟩
      rw [← hA] at LF G hAs
      have HAs := Lib.hid hAs
      clear hA hAs g hrg hD hok hfi ih hsh hk h1 hn7
      go_enter Tryd.func25, Tryd.ntmps25
      go_wp2_with (first | (refine wpList_allocG rfl 28 35 allocsSum rfl ?_; intro W2 u2 z2 hz2; obtain ⟨Z2, hZ2, hb2⟩ := hz2; have U2 := Lib.hid u2; have HZ2 := Lib.hid hZ2; have HB2 := Lib.hid hb2; clear u2 z2 hZ2 hb2) | (refine wpList_load_arr rfl 38 (.tmp 8) rfl b o rfl A _ (rangeAt_up G.out U2.out) rfl rfl (by rw [HAs.out]; rfl) ?_))
      obtain ⟨bd, hbd⟩ : ∃ b, b = w.heap.size := ⟨_, rfl⟩
      have HB3 := HB2.out
      rw [← hbd] at HB3 ⊢
      have HBd := Lib.hid hbd
      have HB4 := Lib.hid HB3
      clear hbd HB3 HB2
      refine (LF.out W2 U2.out).mono ?_
      rintro e w5 ⟨rfl, u5⟩
      have X5 := Lib.hid ((u5.block bd (lt_of_block HB4.out)).trans HB4.out)
      have U5 : Hid (Up w w5) := Up.trans U2.out u5
      clear u5
      go_wp2_with (refine wpList_store_row rfl 28 (.tmp 2) (.tmp 10) rfl bd D rfl rfl 28 _ X5.out (by rw [HDs.out]; rfl) (by rw [HZ2.out, HDs.out]) HDc.out ?_)
      refine bodyPost_ret (results_cell_row rfl _ _ bd _ D (0, 0) _ rfl (setRow_heap _ _ _ _ _ _ X5.out) rfl rfl (by rw [HDs.out]; rfl)) rfl ⟨rfl, below_setRow U5.out (by rw [HBd.out]; exact Nat.le_refl _) _⟩
    have d1 : ((n : Int) == 1) = false := by rw [beq_eq_false_iff_ne]; omega
    have h2n : 2 ≤ n := by omega
    have hlt := hf_lt h2n
    have hpos := hf_pos n
    have hl1 : (ls.take (hf n)).length = hf n := by rw [List.length_take]; omega
    have hl2 : (ls.drop (hf n)).length = n - hf n := by rw [List.length_drop]; omega
    have hne1 : ls.take (hf n) ≠ [] := fun e => by rw [e] at hl1; simp at hl1; omega
    have hne2 : ls.drop (hf n) ≠ [] := fun e => by rw [e] at hl2; simp at hl2; omega
    have hfi1 : ∀ x ∈ ls.take (hf n), fineB x = true := fun x hx => hfi x (List.mem_of_mem_take hx)
    have hfi2 : ∀ x ∈ ls.drop (hf n), fineB x = true := fun x hx => hfi x (List.mem_of_mem_drop hx)
    have T1 := Lib.hid fun W (hu : Up w W) => ih (hf n) (by omega) (some ⟨b, o, none⟩) (hf n) c (ls.take (hf n)) W rfl hl1.symm (by omega) (by omega) hfi1 ((hsh.up hu).take _) (by omega) hcm (HT.out.up hu)
    have T2 := Lib.hid fun W (hu : Up w W) => ih (n - hf n) (by omega) (some ⟨b, o + hf n * 5, none⟩) (n - hf n) (c - hf n) (ls.drop (hf n)) W rfl hl2.symm (by omega) (by omega) hfi2 ((hsh.up hu).drop _) (by omega) (by omega) (HT.out.up hu)
    have ok1 := treeS_ok hne1 (by omega) hfi1
    have ok2 := treeS_ok hne2 (by omega) hfi2
    have ND := Lib.hid fun W (hu : Up w W) => node_calls (treeS (ls.take (hf n))) (treeS (ls.drop (hf n))) ok1 ok2 W (HT.out.up hu)
    rw [hn, ← treeS_two (by omega), ← hn] at ND
    have HF := Lib.hid fun W => half_calls n h2n hn7 W
    rw [← hD] at ND
    obtain ⟨A1, hA1⟩ : ∃ A, A = (smCells (treeS (ls.take (hf n)))).toArray := ⟨_, rfl⟩
    obtain ⟨A2, hA2⟩ : ∃ A, A = (smCells (treeS (ls.drop (hf n)))).toArray := ⟨_, rfl⟩
    rw [← hA1] at T1 ND
    rw [← hA2] at T2 ND
    obtain ⟨m, hm⟩ : ∃ m, m = hf n := ⟨_, rfl⟩
    rw [← hm] at HF T1 T2 hlt hpos
    clear hA1 hA2 ok1 ok2 hfi1 hfi2 hne1 hne2 hl1 hl2 hD hok hfi ih hsh hrg hm hn hk
    go_enter Tryd.func25, Tryd.ntmps25
    go_wp2_with (first | (refine wpList_allocG rfl 28 35 allocsSum rfl ?_; intro W2 u2 z2 hz2; obtain ⟨Z2, hZ2, hb2⟩ := hz2; have U2 := Lib.hid u2; have HZ2 := Lib.hid hZ2; have HB2 := Lib.hid hb2; clear u2 z2 hZ2 hb2))
    obtain ⟨bd, hbd⟩ : ∃ b, b = w.heap.size := ⟨_, rfl⟩
    have HB3 := HB2.out
    rw [← hbd] at HB3 ⊢
    have HBd := Lib.hid hbd
    have HB4 := Lib.hid HB3
    clear hbd HB3 HB2
    refine (HF.out W2).mono ?_
    rintro e w5 ⟨rfl, rfl⟩
    go_wp2_with fail
    refine wp_region_mix_at [0, 1, 2, 4, 5, 6] [3, 7, 8, 9] (by kernel_rfl) (by kernel_rfl) (fun _ _ d _ _ h => by cases d <;> exact h) ?_
    intro W U hW
    have DW : Hid (W.heap[bd]? = some (.cells Z2 28 (0, 0))) := by show _ = _; rw [hW]; exact HB4.out
    have UW : Hid (Up w W) := Up.trans U2.out U
    clear U hW HB4
    refine ⟨fun W' => Up w W', UW.out, ?_⟩
    haveI : Nonempty (InC (fun W' => Up w W')) := ⟨⟨W, UW.out⟩⟩
    simp only [pick, List.getElem?_cons_zero, List.getElem?_cons_succ]
    have hmc : m ≤ c := by omega
    have hmn : m ≤ n := by omega
    have hnm : ¬ c = m := by omega
    repeat (refine wpStillC_step (fun K hK => ?_); go_simp; refine hK _ ?_; clear hK K)
    refine wpStillC_nil ?_
    clear hmc hmn hnm
    refine wpChain_step (fun K hK => ?_)
    go_simp
    refine (T1.out W UW.out).mono ?_
    rintro e w1 ⟨rfl, u1⟩
    refine hK _ _ (inC (Up.trans UW.out u1)) ?_
    clear hK K
    refine wpChain_step (fun K hK => ?_)
    go_simp
    refine (T2.out w1 (Up.trans UW.out u1)).mono ?_
    rintro e w2 ⟨rfl, u2⟩
    have U2' := Up.trans u1 u2
    refine hK _ _ (inC (Up.trans UW.out U2')) ?_
    clear hK K u1 u2
    refine wpChain_step (fun K hK => ?_)
    go_simp
    refine (ND.out w2 (Up.trans UW.out U2')).mono ?_
    rintro e w3 ⟨rfl, u3⟩
    have U3' := Up.trans U2' u3
    refine hK _ _ (inC (Up.trans UW.out U3')) ?_
    clear hK K u3 U2'
    have D3 := (U3'.block bd (lt_of_block DW.out)).trans DW.out
    refine wpChain_want rfl (fun K hK => ?_)
    refine wp_store_row 28 (.tmp 2) (.tmp 22) rfl bd D rfl rfl 28 _ D3 (by rw [HDs.out]; rfl) (by rw [HZ2.out, HDs.out]) HDc.out ?_
    have U4 : Up w (w3.setRow bd D) := below_setRow (Up.trans UW.out U3') (by rw [HBd.out]; exact Nat.le_refl _) _
    refine hK _ _ (inC U4) ?_
    clear hK K
    refine wpChain_nil ?_
    go_wp2
    refine bodyPost_ret (results_cell_row rfl _ _ bd _ D (0, 0) _ rfl (setRow_heap _ _ _ _ _ _ D3) rfl rfl (by rw [HDs.out]; rfl)) rfl ⟨rfl, U4⟩

end Go.Proofs.YtobcfhninchnkaaDoor

namespace Go.Proofs.YtobcfhninchnkaaDoor
open Go.RowKit
set_option linter.unusedVariables false
set_option maxRecDepth 100000

def chkFrom : Int → List Sh → Bool
  | _, [] => true
  | last, x :: r => fineB x && decide (last < x.farm) && chkFrom x.farm r
def chkE (l : List Sh) : Int := if l.length = 0 ∨ 600 < l.length then 2 else if chkFrom (-1) l then 0 else 570

theorem allocsShare : Allocs Tryd.prog 38 5 := fun w =>
  ⟨(((Tryd.prog.info? 38).bind (·.zero)).getD undef).cells, by kernel_rfl, by kernel_rfl⟩
theorem shCells_all (x : Sh) : (shCells x).all (·.oneCell') = true := by simp [shCells, Value.oneCell']

set_option maxHeartbeats 1000000 in
theorem pcheck_calls (p : Option Addr) (n c : Nat) (ls : List Sh) (w : World) (hn : n = ls.length) (h : Shares w p ls) (hc : n ≤ c) (hcm : c ≤ maxLen) :
    Calls Tryd.prog 24 #[.slice p n c] w fun e w' => e = .returned (.int .i64 (chkE ls)) ∧ Up w w' := by
  by_cases h0 : n = 0
  case pos =>
    subst h0
    have hv : chkE ls = 2 := by unfold chkE; rw [if_pos (.inl hn.symm)]
    rw [hv]
    clear hv h hn
    go_enter Tryd.func24, Tryd.ntmps24
    go_wp2
    go_ret
    exact ⟨rfl, Up.refl _⟩
  have d0 : ((n : Int) == 0) = false := by rw [beq_eq_false_iff_ne]; omega
  by_cases h6 : 600 < n
  case pos =>
    have hv : chkE ls = 2 := by unfold chkE; rw [if_pos (.inr (by omega))]
    rw [hv]
    have d6 : decide ((600 : Int) < n) = true := by simp; omega
    clear hv h hn
    go_enter Tryd.func24, Tryd.ntmps24
    go_wp2
    go_ret
    exact ⟨rfl, Up.refl _⟩
  have d6 : decide ((600 : Int) < n) = false := by simp; omega
  have hv : chkE ls = if chkFrom (-1) ls then 0 else 570 := by unfold chkE; rw [if_neg (by omega)]
  rw [hv]
  obtain ⟨b, o, rfl, hrg⟩ := h (by rintro rfl; simp at hn; omega)
  have HN := Lib.hid hn
  obtain ⟨V, hV⟩ : ∃ V : Int, V = if chkFrom (-1) ls then 0 else 570 := ⟨_, rfl⟩
  rw [← hV]
  have HV := Lib.hid hV
  clear hv h hn hV
  go_enter Tryd.func24, Tryd.ntmps24
  go_wp2
  go_loopw [3, 16] (fun v3 v16 wq => ∃ (i : Nat) (last : Int), i ≤ n ∧ v16 = .int .i64 i ∧ v3 = .int .i64 last ∧ Hid (chkFrom (-1) ls = chkFrom last (ls.drop i)) ∧ Hid (Up w wq))
    (fun _ v16 _ => n - (intOf v16).toNat)
  case atStart => exact ⟨0, -1, by omega, rfl, rfl, rfl, Up.refl _⟩
  case round =>
    obtain ⟨i, last, hi, rfl, rfl, HC, HU⟩ := hrel
    by_cases hlt : i < n
    case neg =>
      have e : i = n := by omega
      subst e
      have hv : V = 0 := by rw [HV.out, HC.out, HN.out, List.drop_of_length_le (Nat.le_refl _)]; rfl
      subst hv
      go_wp2
      go_ret
      exact ⟨rfl, HU.out⟩
    have hi2 : i < ls.length := by rw [← HN.out]; exact hlt
    have hc2 := HC.out
    rw [List.drop_eq_getElem_cons hi2, chkFrom] at hc2
    have g := hrg i hi2
    obtain ⟨x, hx⟩ : ∃ x, x = ls[i] := ⟨_, rfl⟩
    rw [← hx] at hc2 g
    have G : Hid (wr.rangeAt b (o + i * 5) (shCells x).toList) := rangeAt_up g HU.out
    have FN := Lib.hid fun W => fine_calls x W
    have HC2 := Lib.hid hc2
    obtain ⟨A, hA⟩ : ∃ A, A = shCells x := ⟨_, rfl⟩
    have hA0 : A[0]? = some (.int .i64 x.farm) := by rw [hA]; rfl
    have hAs : A.size = 5 := by rw [hA]; rfl
    have hAc : A.all (·.oneCell') = true := by rw [hA]; exact shCells_all x
    rw [← hA] at G FN
    have HA0 := Lib.hid hA0
    have HAs := Lib.hid hAs
    have HAc := Lib.hid hAc
    clear hA hA0 hAs hAc g hc2 hx
    go_wp2_with (first | (refine wpList_load_arr rfl 38 (.tmp 18) rfl b (o + i * 5) rfl A _ G.out rfl rfl (by rw [HAs.out]; rfl) ?_) | (refine wpList_allocG rfl 38 5 allocsShare rfl ?_; intro W2 u2 z2 hz2; obtain ⟨Z2, hZ2, hb2⟩ := hz2; have U2 := Lib.hid u2; have HZ2 := Lib.hid hZ2; have HB2 := Lib.hid hb2; clear u2 z2 hZ2 hb2) | (refine wpList_store_row rfl 38 (.tmp 5) (.tmp 19) rfl _ A rfl rfl 38 _ HB2.out (by rw [HAs.out]; rfl) (by rw [HZ2.out, HAs.out]) HAc.out ?_; refine wpList_named ?_; intro W3 hW3; (have u3 : Up wr W3 := setRow_upN hW3 U2.out (Nat.le_refl _)); (have x3 := setRow_named hW3 HB2.out); (have U3 : Hid (Up w W3) := Up.trans HU.out u3); have X3 := Lib.hid x3; clear u3 x3 hW3) | ((with_reducible show wpList _ _ _ (Oper.mk _ (Op.load _ (Operand.tmp 5)) _ _ _ _ :: _) _ _); refine wpList_load_arr rfl 38 (.tmp 5) rfl wr.heap.size 0 rfl A _ (rangeAt_row X3.out) rfl rfl (by rw [HAs.out]; rfl) ?_))
    refine (FN.out W3).mono ?_
    rintro e W4 ⟨rfl, u4⟩
    have U4 : Hid (Up w W4) := Up.trans U3.out u4
    have q0 : W4.cell? ⟨wr.heap.size, 0, none⟩ = some (.int .i64 x.farm) := (cell_of_row W4 _ 0 _ _ _ ((u4.block _ (lt_of_block X3.out)).trans X3.out)).trans HA0.out
    obtain ⟨fb, hfb⟩ : ∃ fb, fb = fineB x := ⟨_, rfl⟩
    rw [← hfb] at HC2 ⊢
    clear hfb u4 hrg
    cases fb
    case false =>
      have hv : V = 570 := by rw [HV.out, HC2.out]; rfl
      subst hv
      go_wp2
      go_ret
      exact ⟨rfl, U4.out⟩
    by_cases hlast : last < x.farm
    case neg =>
      have hv : V = 570 := by rw [HV.out, HC2.out]; simp [hlast]
      subst hv
      have d5 : decide (x.farm ≤ last) = true := by simp; omega
      go_wp2
      go_ret
      exact ⟨rfl, U4.out⟩
    have d5 : decide (x.farm ≤ last) = false := by simp; omega
    have HC3 : Hid (chkFrom (-1) ls = chkFrom x.farm (ls.drop (i + 1))) := by show _ = _; rw [HC2.out]; simp [hlast]
    go_wp2
    exact ⟨⟨i + 1, x.farm, by omega, by go_num, rfl, HC3, U4⟩, by simp [intOf]; omega⟩

end Go.Proofs.YtobcfhninchnkaaDoor

namespace Go.Proofs.YtobcfhninchnkaaDoor
open Go.RowKit
set_option linter.unusedVariables false
set_option maxRecDepth 100000

theorem chkFrom_fine : ∀ (l : List Sh) (last : Int), chkFrom last l = true → ∀ x ∈ l, fineB x = true
  | [], _, _ => fun x hx => by cases hx
  | y :: r, last, h => fun x hx => by
    simp only [chkFrom, Bool.and_eq_true] at h
    rcases List.mem_cons.1 hx with rfl | hx
    · exact h.1.1
    · exact chkFrom_fine r _ h.2 x hx
theorem chkE_ok {l : List Sh} (h : chkE l = 0) : l ≠ [] ∧ l.length ≤ 600 ∧ ∀ x ∈ l, fineB x = true := by
  unfold chkE at h
  split at h
  · cases h
  · rename_i h1
    split at h
    · rename_i h2
      exact ⟨fun e => h1 (.inl (by rw [e]; rfl)), by omega, chkFrom_fine l _ h2⟩
    · cases h
theorem chkE_cases (l : List Sh) : chkE l = 0 ∨ chkE l = 2 ∨ chkE l = 570 := by
  unfold chkE; split
  · simp
  · split <;> simp

def zeroS : Sm := ⟨List.replicate 32 0, 0, 0, 0⟩
def rootS (l : List Sh) : Sm := if chkE l = 0 then treeS l else zeroS

section
variable {P : Program} {ops : Array Oper} {rest : List Oper} {Q : Exit → Act → World → Prop} {a : Act} {w : World}
/-- a block of this type is made, and holds these cells -/
def AllocsZ (P : Program) (ty : TypeId) (Z : Array Value) : Prop := ∀ w : World, (Instr.alloc ty true (.tuple #[])).run P w = .ok (.pointer (some ⟨w.heap.size, 0, none⟩)) (w.alloc (.cells Z ty (0, 0)))
theorem wp_allocZ {o : Oper} {K : Act → World → Prop} (ty : TypeId) (Z : Array Value) (hA : AllocsZ P ty Z) (ho : o.op = .alloc ty)
    (h : ∀ W, Up w W → W.heap.size = w.heap.size + 1 → W.heap[w.heap.size]? = some (.cells Z ty (0, 0)) → K (a.put o.dst (.pointer (some ⟨w.heap.size, 0, none⟩))) W) : o.wp P a w K Q := by
  have hr := hA w
  unfold Oper.wp execOp
  simp only [ho, Sem.run_bind, hr, Result.andThen_ok, Sem.run_pure]
  exact h _ ((Up.refl w).alloc _) (by simp) (heap_new rfl)
theorem wpList_allocZ {o : Oper} (hgd : o.guard = none) (ty : TypeId) (Z : Array Value) (hA : AllocsZ P ty Z) (ho : o.op = .alloc ty)
    (h : ∀ W, Up w W → W.heap.size = w.heap.size + 1 → W.heap[w.heap.size]? = some (.cells Z ty (0, 0)) → wpList P ops Q rest (a.put o.dst (.pointer (some ⟨w.heap.size, 0, none⟩))) W) : wpList P ops Q (o :: rest) a w :=
  wpList_plain hgd fun _ hK => wp_allocZ ty Z hA ho fun W h1 h2 h3 => hK _ _ (h W h1 h2 h3)
theorem results_cell_row_tmp {fn : Func} {p u : Tmp} {ty : TypeId} (h : fn.results = #[.cell p ty, .tmp u]) (tmps : Array Value) (w : World) (g : Nat) (t : TypeId) (cs : Array Value) (fr : Nat × Nat) (d : TypeDesc)
    (hp : tmps.getD p undef = .pointer (some ⟨g, 0, none⟩)) (hg : w.heap[g]? = some (.cells cs t fr))
    (hu : P.underlying ty = some d) (hd : (match d with | .struct _ | .array _ _ => true | _ => false) = true) (hi : (P.info? ty).map (·.size) = some cs.size) :
    (results fn tmps).run P w = .ok (.tuple #[.agg cs, tmps.getD u undef]) w := by
  rw [results_cell_tmp h, hp]
  simp [asAddr, run_loadVar_row w g t ty cs fr d hg hu hd hi]
end
theorem allocsSumZ : AllocsZ Tryd.prog 28 (smCells zeroS).toArray := fun w => by kernel_rfl

set_option maxHeartbeats 1000000 in
theorem root_calls (p : Option Addr) (n c : Nat) (ls : List Sh) (w : World) (hn : n = ls.length) (h : Shares w p ls) (hc : n ≤ c) (hcm : c ≤ maxLen) (htab : Tabs w) :
    Calls Tryd.prog 9 #[.slice p n c] w fun e w' => e = .returned (.tuple #[.agg (smCells (rootS ls)).toArray, .int .i64 (chkE ls)]) ∧ Up w w' := by
  have CK := Lib.hid fun W (hu : Up w W) => pcheck_calls p n c ls W hn (h.up hu) hc hcm
  have TR : Hid (chkE ls = 0 → ∀ W, Up w W → Calls Tryd.prog 25 #[.slice p n c] W fun e w' => e = .returned (.agg (smCells (rootS ls)).toArray) ∧ Up W w') := fun h0 W hu => by
    obtain ⟨h1, h2, h3⟩ := chkE_ok h0
    have : 1 ≤ n := by rw [hn]; exact List.length_pos_iff.2 h1
    have e : rootS ls = treeS ls := by unfold rootS; rw [if_pos h0]
    rw [e]
    exact tree_calls n p n c ls W rfl hn this (by omega) h3 (h.up hu) hc hcm (htab.up hu)
  have hz : Hid (chkE ls ≠ 0 → rootS ls = zeroS) := fun h0 => by unfold rootS; rw [if_neg h0]
  have hDs : Hid ((smCells (rootS ls)).toArray.size = 35) := by
    have hl : (rootS ls).hash.length = 32 := by
      unfold rootS
      split
      · rename_i h0
        obtain ⟨h1, h2, h3⟩ := chkE_ok h0
        exact (treeS_ok h1 (by omega) h3).hash
      · rfl
    have := smCells_len (s := rootS ls) hl
    show _ = _
    simpa using this
  have hDc : Hid ((smCells (rootS ls)).toArray.all (·.oneCell') = true) := smCells_all _
  have hzs : Hid ((smCells zeroS).toArray.size = 35) := by show _ = _; simp [smCells, zeroS, u8s]
  have hza : Hid (AllocsZ Tryd.prog 28 (smCells zeroS).toArray) := allocsSumZ
  obtain ⟨Z, hZ⟩ : ∃ Z, Z = (smCells zeroS).toArray := ⟨_, rfl⟩
  obtain ⟨D, hD⟩ : ∃ D, D = (smCells (rootS ls)).toArray := ⟨_, rfl⟩
  have HZD : Hid (chkE ls ≠ 0 → D = Z) := fun h0 => by rw [hD, hZ, hz.out h0]
  rw [← hD] at TR hDs hDc ⊢
  rw [← hZ] at hzs hza
  obtain ⟨ee, hee⟩ : ∃ ee, ee = chkE ls := ⟨_, rfl⟩
  rw [← hee] at CK TR HZD ⊢
  clear hD hZ hz htab h hn hee
  go_enter Tryd.func9, Tryd.ntmps9
  go_wp2_with (refine wpList_allocZ rfl 28 Z hza.out rfl ?_; intro W2 u2 z2 hb2; have U2 := Lib.hid u2; have HB2 := Lib.hid hb2; clear u2 z2 hb2)
  obtain ⟨bd, hbd⟩ : ∃ b, b = w.heap.size := ⟨_, rfl⟩
  have HB3 := HB2.out
  rw [← hbd] at HB3 ⊢
  have HBd := Lib.hid hbd
  have HB4 := Lib.hid HB3
  clear hbd HB3 HB2
  refine (CK.out W2 U2.out).mono ?_
  rintro e w5 ⟨rfl, u5⟩
  have X5 := Lib.hid ((u5.block bd (lt_of_block HB4.out)).trans HB4.out)
  have U5 : Hid (Up w w5) := Up.trans U2.out u5
  clear u5
  by_cases h0 : ee = 0
  case neg =>
    have d0 : (ee == 0) = false := by rw [beq_eq_false_iff_ne]; exact h0
    obtain rfl := HZD.out h0
    clear h0
    go_wp2_with (first | (refine wpList_load_arr rfl 28 (.tmp 2) rfl bd 0 rfl D _ (rangeAt_row X5.out) rfl rfl (by rw [hDs.out]; rfl) ?_) | (refine wpList_store_row rfl 28 (.tmp 2) (.tmp 8) rfl bd D rfl rfl 28 _ X5.out (by rw [hDs.out]; rfl) rfl hDc.out ?_))
    refine bodyPost_ret (results_cell_row_tmp rfl _ _ bd _ D (0, 0) _ rfl (setRow_heap _ _ _ _ _ _ X5.out) rfl rfl (by rw [hDs.out]; rfl)) rfl ⟨rfl, below_setRow U5.out (by rw [HBd.out]; exact Nat.le_refl _) _⟩
  have TR2 := Lib.hid (TR.out h0)
  clear TR HZD
  subst h0
  go_wp2_with fail
  refine (TR2.out w5 U5.out).mono ?_
  rintro e w6 ⟨rfl, u6⟩
  have X6 := Lib.hid ((u6.block bd (lt_of_block X5.out)).trans X5.out)
  have U6 : Hid (Up w w6) := Up.trans U5.out u6
  clear u6
  go_wp2_with (refine wpList_store_row rfl 28 (.tmp 2) (.tmp 11) rfl bd D rfl rfl 28 _ X6.out (by rw [hDs.out]; rfl) (by rw [hzs.out, hDs.out]) hDc.out ?_)
  refine bodyPost_ret (results_cell_row_tmp rfl _ _ bd _ D (0, 0) _ rfl (setRow_heap _ _ _ _ _ _ X6.out) rfl rfl (by rw [hDs.out]; rfl)) rfl ⟨rfl, below_setRow U6.out (by rw [HBd.out]; exact Nat.le_refl _) _⟩

end Go.Proofs.YtobcfhninchnkaaDoor
