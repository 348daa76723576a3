/- THE WALK OF (*digest.state).absorb. -/
import Derived.Test.YtmifpokafaiebaaDoorShaW
import Derived.StillTailTactics
import Derived.Deep.QuietTactic
import Derived.BigQuiet
import Derived.Deep.RegionLaw
import Derived.Laws.CopyOwn
namespace Go.Proofs.YtmifpokafaiebaaDoor
open Go.RowKit
set_option linter.unusedVariables false

theorem Chg.drewN {S : Nat → Prop} {A B : World} (h : Chg S A B) (n : Nat) : Chg S A (B.drewN n) := ⟨h.os, h.tape, h.output, h.size, h.block⟩

theorem Chg.below1 {A B C : World} {b : Nat} (h : Chg (· = b) A B) (hz : A.heap.size = b + 1) (k : Below b B C) : Chg (· = b) A C :=
  ⟨k.os.trans h.os, k.tape.trans h.tape, k.output.trans h.output, Nat.le_trans h.size k.size, fun i hi hn => (k.block i (by have : i ≠ b := hn; omega)).trans (h.block i hi hn)⟩

theorem Chg.drew' {S : Nat → Prop} {A B C : World} (h : Chg S A B) (e : C = B.drew) : Chg S A C := e ▸ h.drew
theorem Chg.skip {A B C : World} {b : Nat} {S : Nat → Prop} (h : Chg S A B) (k : Chg (· = b) B C) (hb : A.heap.size ≤ b) : Chg S A C :=
  ⟨k.os.trans h.os, k.tape.trans h.tape, k.output.trans h.output, Nat.le_trans h.size k.size, fun i hi hn => (k.block i (Nat.lt_of_lt_of_le hi h.size) (by show ¬ i = b; omega)).trans (h.block i hi hn)⟩

/-- words as the cells of a block -/
def u32s (l : List Nat) : List Value := l.map fun n => Value.int .u32 (n : Nat)

theorem u32s_length (l : List Nat) : (u32s l).length = l.length := by simp [u32s]
theorem u32s_get {l : List Nat} {i : Nat} (h : i < l.length) : (u32s l).toArray[i]? = some (.int .u32 (l.getD i 0 : Nat)) := by
  simp [u32s, h]
theorem cell_u32s {w : World} {b : Nat} {l : List Nat} {t : TypeId} {fr : Nat × Nat} (h : w.heap[b]? = some (.cells (u32s l).toArray t fr)) {i : Nat} (hi : i < l.length) : w.cell? ⟨b, i, none⟩ = some (.int .u32 (l.getD i 0 : Nat)) := by
  rw [cell_of_row w b i _ t _ h, u32s_get hi]
theorem free_row {w : World} {b : Nat} {cs : Array Value} {t : TypeId} (h : w.heap[b]? = some (.cells cs t (0, 0))) (i : Nat) : w.frozen? ⟨b, i, none⟩ = false := frozen_of_row w b i cs t h
theorem set_u32s {w : World} {b : Nat} {l : List Nat} {t : TypeId} (h : w.heap[b]? = some (.cells (u32s l).toArray t (0, 0))) (i n : Nat) : (w.setCell ⟨b, i, none⟩ (.int .u32 (n : Nat))).heap[b]? = some (.cells (u32s (l.set i n)).toArray t (0, 0)) := by
  rw [heap_setCell_same w b i _ t _ h]
  simp [u32s, List.map_set]

theorem words_succ : ∀ (k : Nat) (l : List UInt8), Sha.words (k + 1) l = Sha.words k l ++ [Sha.word ((l.drop (4 * k)).take 4)]
  | 0, l => by simp [Sha.words]
  | k + 1, l => by
    rw [Sha.words, words_succ k (l.drop 4), Sha.words, List.drop_drop, show 4 + 4 * k = 4 * (k + 1) by omega]; rfl

theorem set_pad (l : List Nat) (n x : Nat) (h : n ≠ 0) : (l ++ List.replicate n 0).set l.length x = l ++ [x] ++ List.replicate (n - 1) 0 := by
  obtain ⟨m, rfl⟩ : ∃ m, n = m + 1 := ⟨n - 1, by omega⟩
  rw [List.set_append_right _ _ (Nat.le_refl _)]
  simp [List.replicate_succ]

theorem sg_val (a b d x : Nat) (hx : x < 4294967296) : bits BinOp.xor IntKind.u32 (bits BinOp.xor IntKind.u32 (Sha.rot a x : Nat) (Sha.rot b x : Nat)) ((x : Int) / (d : Nat)) = ((Sha.rot a x ^^^ Sha.rot b x ^^^ x / d : Nat) : Int) := by
  have e : ((x : Int) / (d : Nat)) = ((x / d : Nat) : Int) := by simp
  rw [e, u32_xor_nat _ _ (Sha.rot_lt hx) (Sha.rot_lt hx), u32_xor_nat _ _ (Sha.xor_lt (Sha.rot_lt hx) (Sha.rot_lt hx)) (Sha.div_lt hx)]

theorem wnext_val {x16 x15 x7 x2 : Nat} (h15 : x15 < 4294967296) (h2 : x2 < 4294967296) :
    (((x16 : Int) + bits BinOp.xor IntKind.u32 (bits BinOp.xor IntKind.u32 (Sha.rot 7 x15 : Nat) (Sha.rot 18 x15 : Nat)) ((x15 : Int) / 8) + x7 +
      bits BinOp.xor IntKind.u32 (bits BinOp.xor IntKind.u32 (Sha.rot 17 x2 : Nat) (Sha.rot 19 x2 : Nat)) ((x2 : Int) / 1024)) % 4294967296) =
    ((Sha.ad (Sha.ad (Sha.ad x16 (Sha.sg0 x15)) x7) (Sha.sg1 x2) : Nat) : Int) := by
  have a := sg_val 7 18 8 x15 h15
  have b := sg_val 17 19 1024 x2 h2
  rw [show ((8 : Nat) : Int) = 8 from rfl] at a
  rw [show ((1024 : Nat) : Int) = 1024 from rfl] at b
  rw [a, b]
  unfold Sha.ad Sha.sg0 Sha.sg1
  generalize Sha.rot 7 x15 ^^^ Sha.rot 18 x15 ^^^ x15 / 8 = p
  generalize Sha.rot 17 x2 ^^^ Sha.rot 19 x2 ^^^ x2 / 1024 = q
  omega

theorem p_val {v7 v4 v5 v6 xk xw : Nat} (h4 : v4 < 4294967296) (h5 : v5 < 4294967296) (h6 : v6 < 4294967296) :
    (((((v7 : Int) + ((Sha.rot 6 v4 ^^^ Sha.rot 11 v4 ^^^ Sha.rot 25 v4 : Nat) : Int) + bits BinOp.xor IntKind.u32 (v6 : Int) (bits BinOp.and IntKind.u32 (v4 : Int) (bits BinOp.xor IntKind.u32 (v5 : Int) (v6 : Int))) + (xk : Int)) % 4294967296 + (xw : Int)) % 4294967296) =
    ((Sha.ad (Sha.ad (Sha.ad (Sha.ad v7 (Sha.bs1 v4)) (Sha.ch v4 v5 v6)) xk) xw : Nat) : Int)) := by
  rw [u32_xor_nat _ _ h5 h6, u32_and_nat _ _ h4 (Sha.xor_lt h5 h6), u32_xor_nat _ _ h6 (Sha.and_lt (Sha.xor_lt h5 h6))]
  unfold Sha.ad Sha.bs1 Sha.ch
  generalize Sha.rot 6 v4 ^^^ Sha.rot 11 v4 ^^^ Sha.rot 25 v4 = p
  generalize v6 ^^^ (v4 &&& (v5 ^^^ v6)) = q
  omega

theorem ad_val (a b : Nat) : (((a : Int) + (b : Int)) % 4294967296) = ((Sha.ad a b : Nat) : Int) := by simp [Sha.ad]
theorem q_val {v0 v1 v2 : Nat} (h0 : v0 < 4294967296) (h1 : v1 < 4294967296) (h2 : v2 < 4294967296) :
    ((((Sha.rot 2 v0 ^^^ Sha.rot 13 v0 ^^^ Sha.rot 22 v0 : Nat) : Int) + bits BinOp.or IntKind.u32 (bits BinOp.and IntKind.u32 (v0 : Int) (v1 : Int)) (bits BinOp.and IntKind.u32 (v2 : Int) (bits BinOp.or IntKind.u32 (v0 : Int) (v1 : Int)))) % 4294967296) = ((Sha.ad (Sha.bs0 v0) (Sha.mj v0 v1 v2) : Nat) : Int) := by
  rw [u32_or_nat _ _ h0 h1, u32_and_nat _ _ h0 h1, u32_and_nat _ _ h2 (Sha.or_lt h0 h1), u32_or_nat _ _ (Sha.and_lt h1) (Sha.and_lt (Sha.or_lt h0 h1)), ad_val]
  rfl

theorem len8 {l : List Nat} (h : l.length = 8) : ∃ a b c d e f g i, l = [a, b, c, d, e, f, g, i] := by
  match l, h with
  | [a, b, c, d, e, f, g, i], _ => exact ⟨a, b, c, d, e, f, g, i, rfl⟩

theorem src_cells {w : World} {b : Nat} {l r : List Nat} {t : TypeId} (h : w.heap[b]? = some (.cells (u32s (l ++ r)).toArray t (0, 0))) (j : Nat) (v : Value) (hj : (u32s l)[j]? = some v) : w.cell? (Addr.add ⟨b, 0, none⟩ j) = some v := by
  have : (Addr.add ⟨b, 0, none⟩ j) = ⟨b, j, none⟩ := by simp [Addr.add] <;> exact fun h => h.symm
  rw [this, cell_of_row w b j _ t _ h]
  rw [List.getElem?_toArray]
  unfold u32s at hj ⊢
  rw [List.map_append, List.getElem?_append_left]
  · exact hj
  · exact (List.getElem?_eq_some_iff.1 hj).1
theorem u32s_one (l : List Nat) : ∀ v ∈ u32s l, v.oneCell' = true := by
  intro v hv
  obtain ⟨n, _, rfl⟩ := List.mem_map.1 hv
  rfl

def mix (k : Nat) (S V : List Nat) : List Nat := List.zipWith Sha.ad (S.take k) (V.take k) ++ S.drop k
theorem mix_zero (S V : List Nat) : mix 0 S V = S := by simp [mix]
theorem mix_length (k : Nat) (S V : List Nat) (h : S.length = V.length) : (mix k S V).length = S.length := by
  simp [mix, h]; omega
theorem mix_get (k : Nat) (S V : List Nat) (h : S.length = V.length) (hk : k < S.length) : (mix k S V).getD k 0 = S.getD k 0 := by
  have e : (List.zipWith Sha.ad (S.take k) (V.take k)).length = k := by simp; omega
  rw [mix, List.getD_eq_getElem?_getD, List.getElem?_append_right (by omega), e, Nat.sub_self, List.getElem?_drop, List.getD_eq_getElem?_getD, Nat.add_zero]
theorem mix_set (k : Nat) (S V : List Nat) (h : S.length = V.length) (hk : k < S.length) : (mix k S V).set k (Sha.ad (S.getD k 0) (V.getD k 0)) = mix (k + 1) S V := by
  have e : (List.zipWith Sha.ad (S.take k) (V.take k)).length = k := by simp; omega
  have hkv : k < V.length := by omega
  rw [mix, List.set_append_right _ _ (by omega), e, Nat.sub_self, mix]
  have d : S.drop k = S.getD k 0 :: S.drop (k + 1) := by
    rw [List.drop_eq_getElem_cons hk]; simp [hk]
  rw [d, List.set_cons_zero, List.take_add_one, List.take_add_one, List.zipWith_append (by simp; omega)]
  simp [hk, hkv]
theorem mix_full (S V : List Nat) (h : S.length = V.length) (hk : S.length = 8) : mix 8 S V = List.zipWith Sha.ad S V := by
  rw [mix, List.drop_of_length_le (by omega), List.append_nil, List.take_of_length_le (by omega), List.take_of_length_le (by omega)]

/-- eight words at (b, 0) -/
def Eight (w : World) (b : Nat) (l : List Nat) : Prop :=
  w.cell? ⟨b, 0, none⟩ = some (.int .u32 (l.getD 0 0 : Nat)) ∧ w.cell? ⟨b, 1, none⟩ = some (.int .u32 (l.getD 1 0 : Nat)) ∧ w.cell? ⟨b, 2, none⟩ = some (.int .u32 (l.getD 2 0 : Nat)) ∧
  w.cell? ⟨b, 3, none⟩ = some (.int .u32 (l.getD 3 0 : Nat)) ∧ w.cell? ⟨b, 4, none⟩ = some (.int .u32 (l.getD 4 0 : Nat)) ∧ w.cell? ⟨b, 5, none⟩ = some (.int .u32 (l.getD 5 0 : Nat)) ∧
  w.cell? ⟨b, 6, none⟩ = some (.int .u32 (l.getD 6 0 : Nat)) ∧ w.cell? ⟨b, 7, none⟩ = some (.int .u32 (l.getD 7 0 : Nat))
theorem eight_of {w : World} {b : Nat} {l : List Nat} {t : TypeId} {fr : Nat × Nat} (h : w.heap[b]? = some (.cells (u32s l).toArray t fr)) (hl : l.length = 8) : Eight w b l :=
  ⟨cell_u32s h (by omega), cell_u32s h (by omega), cell_u32s h (by omega), cell_u32s h (by omega), cell_u32s h (by omega), cell_u32s h (by omega), cell_u32s h (by omega), cell_u32s h (by omega)⟩

/-- The table of constants lies where the program's text lays it. -/
def Tab (w : World) : Prop := ∃ t fr, w.heap[1]? = some (.cells (u32s Sha.K).toArray t fr)
theorem Tab.lt {w : World} (h : Tab w) : 1 < w.heap.size := by
  obtain ⟨t, fr, h⟩ := h
  exact lt_of_block h
theorem Tab.kept {w w' : World} (h : Tab w) (e : w'.heap[1]? = w.heap[1]?) : Tab w' := by
  obtain ⟨t, fr, h⟩ := h
  exact ⟨t, fr, e.trans h⟩
theorem Tab.cell {w : World} (h : Tab w) {i : Nat} (hi : i < 64) : w.cell? ⟨1, i, none⟩ = some (.int .u32 (Sha.K.getD i 0 : Nat)) := by
  obtain ⟨t, fr, h⟩ := h
  exact cell_u32s h (by show i < 64; exact hi)

set_option maxRecDepth 100000 in
set_option maxHeartbeats 1000000 in
theorem absorb_calls (bs bb o cap : Nat) (S : List Nat) (blk : List UInt8) (w : World) (tS : TypeId) (hS : S.length = 8) (hsm : Sha.Small S) (hl : blk.length = 64) (hcap : 64 ≤ cap) (hm : cap ≤ maxLen)
    (hs : w.heap[bs]? = some (.cells (u32s S).toArray tS (0, 0))) (hb : Bs w bb o blk) (hne : bb ≠ bs) (htab : Tab w) (htn : bs ≠ 1) :
    Calls Tryd.prog 54 #[.pointer (some ⟨bs, 0, none⟩), .slice (some ⟨bb, o, none⟩) 64 cap] w fun e w' => (∃ v, e = .returned v) ∧ Chg (· = bs) w w' ∧
      w'.heap[bs]? = some (.cells (u32s (Sha.compress S blk)).toArray tS (0, 0)) := by
  unfold maxLen at hm
  have HB := Lib.hid hb
  have HS := Lib.hid hs
  have HT := Lib.hid htab
  have HL := Lib.hid hS
  have HL2 := Lib.hid hl
  clear hb hs htab hS hl
  go_enter Tryd.func54, Tryd.ntmps54
  go_wp2
  refine wp_named ?_
  intro W1 hW1
  obtain ⟨bw, hbw⟩ : ∃ bw, bw = w.heap.size := ⟨_, rfl⟩
  rw [← hbw]
  have f1 : W1.heap[bw]? = some (.cells (u32s (Sha.words 0 blk ++ List.replicate 64 0)).toArray 113 (0, 0)) := by rw [hW1, hbw]; exact heap_new rfl
  have c1 : Chg (fun _ => False) w W1 := by rw [hW1]; exact Chg.alloc' _ _ _
  have z1 : W1.heap.size = bw + 1 := by rw [hW1, hbw]; simp
  clear hW1
  have hbb : bb < bw := by
    have := HB.out 0 (by rw [HL2.out]; omega)
    rw [hbw]; exact block_lt_of_cell this
  have hbs : bs < bw := by rw [hbw]; exact lt_of_block HS.out
  have HB1 : Hid (∀ wr, Chg (· = bw) W1 wr → Bs wr bb o blk) := fun wr hc => (HB.out.kept (c1.block bb (by omega) (fun h => h))).kept (hc.block bb (by omega) (by omega))
  have HBW := Lib.hid hbw
  clear hbw
  go_loopw [14] (fun v wr => ∃ k : Nat, k ≤ 16 ∧ v = .int .i64 k ∧ wr.heap[bw]? = some (.cells (u32s (Sha.words k blk ++ List.replicate (64 - k) 0)).toArray 113 (0, 0)) ∧ Chg (· = bw) W1 wr ∧ wr.heap.size = bw + 1)
    (fun v _ => 16 - (intOf v).toNat)
  case atStart => exact ⟨0, by omega, rfl, f1, Chg.refl _ _, z1⟩
  case round =>
    obtain ⟨k, hk, rfl, hw, hc, hz⟩ := hrel
    by_cases hlt : k < 16
    · -- [[1
      have hlen : (Sha.words k blk ++ List.replicate (64 - k) 0).length = 64 := by simp [Sha.words_length]; omega
      have hcell := cell_u32s hw (i := k) (by omega)
      have hfree := free_row hw k
      have HW := Lib.hid fun u => set_u32s hw k u
      have HS2 := Lib.hid (set_pad (Sha.words k blk) (64 - k) (Sha.word ((blk.drop (4 * k)).take 4)) (by omega))
      have hwd := Lib.hid (words_succ k blk)
      generalize (Sha.words k blk ++ List.replicate (64 - k) 0).getD k 0 = old at hcell
      have HZ := Lib.hid hz
      clear hw hlen hz
      go_wp2_with fail
      refine (word_calls bb (o + 4 * k) (64 - 4 * k) (cap - 4 * k) ((blk.drop (4 * k)).take 4) wr ?_ ?_ ?_ ?_ ?_).mono ?_
      · have := HL2.out; simp; omega
      · omega
      · omega
      · unfold maxLen; omega
      · exact ((HB1.out wr hc).drop (4 * k)).take 4
      rintro e w' ⟨rfl, rfl⟩
      generalize Sha.word ((blk.drop (4 * k)).take 4) = u at *
      go_wp2_with fail
      refine ⟨⟨k + 1, by omega, by go_num, ?_, hc.setCell (.inl rfl) _, by simpa [World.setCell] using HZ.out⟩, by simp [intOf]; omega⟩
      have h2 := HS2.out
      rw [Sha.words_length] at h2
      rw [HW.out, hwd.out, h2, show 64 - (k + 1) = 64 - k - 1 by omega]
      -- ]]1
    · have hk16 : k = 16 := by omega
      subst hk16
      have HW0 : Hid (wr.heap[bw]? = some (.cells (u32s (Sha.sched (16 - 16) (Sha.words 16 blk) ++ List.replicate (64 - 16) 0)).toArray 113 (0, 0))) := hw
      have HZ := Lib.hid hz
      have hsw := Lib.hid (Sha.words_small 16 blk)
      have hlw := Lib.hid (Sha.words_length 16 blk)
      obtain ⟨W0, HWW⟩ : ∃ W0, Hid (W0 = Sha.words 16 blk) := ⟨_, rfl⟩
      have HWE := HWW.out
      rw [← HWE] at HW0 hsw hlw
      clear HWE
      clear hw hz hk hlt HB HB1
      rw [show ((16 : Nat) : Int) = 16 from rfl]
      go_wp2
      go_loopw [6, 7, 8] (fun v _ _ wq => ∃ t : Nat, 16 ≤ t ∧ t ≤ 64 ∧ v = .int .i64 t ∧ wq.heap[bw]? = some (.cells (u32s (Sha.sched (t - 16) W0 ++ List.replicate (64 - t) 0)).toArray 113 (0, 0)) ∧ Chg (· = bw) W1 wq ∧ wq.heap.size = bw + 1)
        (fun v _ _ _ => 64 - (intOf v).toNat)
      case atStart => exact ⟨16, by omega, by omega, rfl, HW0.out, hc, HZ.out⟩
      case round =>
        obtain ⟨t, ht1, ht2, rfl, hw, hc2, hz⟩ := hrel
        by_cases hlt : t < 64
        · -- [[2
          have hll : (Sha.sched (t - 16) W0).length = t := by rw [Sha.sched_length, hlw.out]; omega
          have hpl : (Sha.sched (t - 16) W0 ++ List.replicate (64 - t) 0).length = 64 := by simp [hll]; omega
          have hsm2 := (Sha.sched_small (t - 16) W0 hsw.out)
          have get : ∀ j, j < t → (Sha.sched (t - 16) W0 ++ List.replicate (64 - t) 0).getD j 0 = (Sha.sched (t - 16) W0).getD j 0 := fun j hj => by
            rw [List.getD_eq_getElem?_getD, List.getD_eq_getElem?_getD, List.getElem?_append_left (by omega)]
          have g15 := cell_u32s hw (i := t - 15) (by omega)
          have g2 := cell_u32s hw (i := t - 2) (by omega)
          have g16 := cell_u32s hw (i := t - 16) (by omega)
          have g7 := cell_u32s hw (i := t - 7) (by omega)
          have gt := cell_u32s hw (i := t) (by omega)
          rw [get _ (by omega)] at g15 g2 g16 g7
          have b15 := Lib.hid (hsm2.getD (t - 15))
          have b2 := Lib.hid (hsm2.getD (t - 2))
          have b16 := Lib.hid (hsm2.getD (t - 16))
          have b7 := Lib.hid (hsm2.getD (t - 7))
          have HN : Hid (Sha.wnext (Sha.sched (t - 16) W0) t = Sha.ad (Sha.ad (Sha.ad ((Sha.sched (t - 16) W0).getD (t - 16) 0) (Sha.sg0 ((Sha.sched (t - 16) W0).getD (t - 15) 0))) ((Sha.sched (t - 16) W0).getD (t - 7) 0)) (Sha.sg1 ((Sha.sched (t - 16) W0).getD (t - 2) 0))) := rfl
          have HW1 := Lib.hid hw
          have HLL := Lib.hid hll
          generalize (Sha.sched (t - 16) W0 ++ List.replicate (64 - t) 0).getD t 0 = xt at *
          generalize (Sha.sched (t - 16) W0).getD (t - 15) 0 = x15 at *
          generalize (Sha.sched (t - 16) W0).getD (t - 2) 0 = x2 at *
          generalize (Sha.sched (t - 16) W0).getD (t - 16) 0 = x16 at *
          generalize (Sha.sched (t - 16) W0).getD (t - 7) 0 = x7 at *
          have HZ2 := Lib.hid hz
          clear hw hz hll hpl hsm2 get
          go_wp2_with fail
          go_quiet (fail)
          go_wp2_with fail
          refine wp_named ?_
          intro wq hwq
          have hc3 : Chg (· = bw) W1 wq := by rw [hwq]; exact hc2.drewN _
          have hqh : wq.heap = wr.heap := by rw [hwq]; rfl
          have cq : ∀ a, wq.cell? a = wr.cell? a := fun a => by rw [hwq]; rfl
          have hq1 := HW1.out
          rw [← hqh] at hq1
          have hq2 : Hid (wq.heap.size = bw + 1) := by rw [hqh]; exact HZ2.out
          replace g16 := (cq _).trans g16
          replace g7 := (cq _).trans g7
          replace gt := (cq _).trans gt
          replace hq1 := Lib.hid hq1
          clear hqh cq
          have hfree : wq.frozen? ⟨bw, t, none⟩ = false := free_row hq1.out t
          clear hwq g15 g2 HW1 HZ2 hc2
          have e16 : IntKind.i64.wrap ((t : Int) - 16) = (t : Int) - 16 := IntWalk.i64_in _ (by omega)
          have e7 : IntKind.i64.wrap ((t : Int) - 7) = (t : Int) - 7 := IntWalk.i64_in _ (by omega)
          have p16 : (0 : Int) ≤ (t : Int) - 16 := by omega
          have p7 : (0 : Int) ≤ (t : Int) - 7 := by omega
          have q16 : (16 : Int) ≤ (t : Int) := by omega
          have q7 : (7 : Int) ≤ (t : Int) := by omega
          have l16 : (t : Int) - 16 < 64 := by omega
          have l7 : (t : Int) - 7 < 64 := by omega
          have n16 : ((t : Int) - 16).toNat = t - 16 := by omega
          have n7 : ((t : Int) - 7).toNat = t - 7 := by omega
          go_still_tail 29, (by kernel_rfl)
          still_call ((rotl_calls 7 x15 _ (by omega) (by omega) b15.out).mono fun _ _ ⟨he, hw⟩ => ⟨he, hw.symm⟩)
          repeat still_step
          still_call ((rotl_calls 18 x15 _ (by omega) (by omega) b15.out).mono fun _ _ ⟨he, hw⟩ => ⟨he, hw.symm⟩)
          repeat still_step
          still_call ((rotl_calls 17 x2 _ (by omega) (by omega) b2.out).mono fun _ _ ⟨he, hw⟩ => ⟨he, hw.symm⟩)
          repeat still_step
          still_call ((rotl_calls 19 x2 _ (by omega) (by omega) b2.out).mono fun _ _ ⟨he, hw⟩ => ⟨he, hw.symm⟩)
          repeat still_step
          refine wpStill_nil ?_
          change wpList _ _ _ _ _ wq.drew
          refine wpList_named ?_
          intro wd hwd
          have hc4 : Chg (· = bw) W1 wd := by rw [hwd]; exact hc3.drew
          have hd2 : Hid (wd.heap.size = bw + 1) := by rw [hwd]; exact hq2.out
          replace gt : wd.cell? ⟨bw, t, none⟩ = some (.int .u32 xt) := by rw [hwd]; exact gt
          replace hfree : wd.frozen? ⟨bw, t, none⟩ = false := by rw [hwd]; exact hfree
          have HW : Hid (∀ u : Nat, (wd.setCell ⟨bw, t, none⟩ (.int .u32 u)).heap[bw]? = some (.cells (u32s ((Sha.sched (t - 16) W0 ++ List.replicate (64 - t) 0).set t u)).toArray 113 (0, 0))) := fun u => by rw [hwd]; exact set_u32s hq1.out t u
          clear hwd e16 e7 p16 p7 q16 q7 l16 l7 n16 n7 g16 g7 hc3 hq1 hq2
          go_wp2_with fail
          rw [wnext_val b15.out b2.out, ← HN.out]
          refine ⟨⟨t + 1, by omega, by omega, by go_num, ?_, hc4.setCell (.inl rfl) _, by simpa [World.setCell] using hd2.out⟩, by simp [intOf]; omega⟩
          have h2 := set_pad (Sha.sched (t - 16) W0) (64 - t) (Sha.wnext (Sha.sched (t - 16) W0) t) (by omega)
          rw [HLL.out] at h2
          have h3 := Sha.sched_succ (t - 16) W0
          rw [HLL.out] at h3
          rw [HW.out, h2, show t + 1 - 16 = t - 16 + 1 by omega, h3, show 64 - (t + 1) = 64 - t - 1 by omega]
          -- ]]2
        · have ht64 : t = 64 := by omega
          subst ht64
          have HW1 : Hid (wr.heap[bw]? = some (.cells (u32s (Sha.sched 48 W0)).toArray 113 (0, 0))) := by
            have := hw
            simp only [show 64 - 64 = 0 from rfl, List.replicate_zero, List.append_nil, show 64 - 16 = 48 from rfl] at this
            exact this
          have HS1 : Hid (wr.heap[bs]? = some (.cells (u32s S).toArray tS (0, 0))) :=
            (hc2.block bs (by omega) (by omega)).trans ((c1.block bs (by rw [← HBW.out]; exact hbs) (fun h => h)).trans HS.out)
          have HZ2 := Lib.hid hz
          clear hw hz ht1 ht2 hlt HZ HW0
          rw [show ((64 : Nat) : Int) = 64 from rfl]
          obtain ⟨a0, a1, a2, a3, a4, a5, a6, a7, rfl⟩ := len8 HL.out
          obtain ⟨k0, k1, k2, k3, k4, k5, k6, k7⟩ := eight_of HS1.out HL.out
          simp only [List.getD_cons_zero, List.getD_cons_succ] at k0 k1 k2 k3 k4 k5 k6 k7
          go_wp2_with fail
          refine wp_named ?_
          intro W2 hW2
          obtain ⟨bv, hbv⟩ : ∃ bv, bv = wr.heap.size := ⟨_, rfl⟩
          rw [← hbv]
          have hv0 : W2.heap[bv]? = some (.cells (u32s [a0, a1, a2, a3, a4, a5, a6, a7]).toArray 95 (0, 0)) := by rw [hW2, hbv]; exact heap_new rfl
          have hlt2 : bv = bw + 1 := by rw [hbv]; exact HZ2.out
          have hw2 : W2.heap[bw]? = some (.cells (u32s (Sha.sched 48 W0)).toArray 113 (0, 0)) := by rw [hW2, heap_old (by rw [← hbv]; omega)]; exact HW1.out
          have hs2 : W2.heap[bs]? = some (.cells (u32s [a0, a1, a2, a3, a4, a5, a6, a7]).toArray tS (0, 0)) := by rw [hW2, heap_old (by rw [← hbv]; omega)]; exact HS1.out
          have hz2 : W2.heap.size = bv + 1 := by rw [hW2, hbv]; simp
          have hcw : Chg (fun _ => False) w W2 := by
            have h1 : Chg (· = bw) w wr := (c1.mono fun _ _ h => h.elim).trans hc2
            rw [hW2]
            exact (h1.alloc _).mono fun k hk e => by have := HBW.out; omega
          have ht2 : Tab W2 := HT.out.kept (hcw.block _ HT.out.lt (fun h => h))
          have hbt : 1 < bw := by rw [HBW.out]; exact HT.out.lt
          have HW3 := Lib.hid hw2
          have HS3 := Lib.hid hs2
          have HT3 := Lib.hid ht2
          have HBV := Lib.hid hlt2
          have hws := Lib.hid (Sha.sched_small 48 W0 hsw.out)
          have hwl : Hid ((Sha.sched 48 W0).length = 64) := by show _ = _; rw [Sha.sched_length, hlw.out]
          have HCW := Lib.hid hcw
          have HFIN : Hid (Sha.compress [a0, a1, a2, a3, a4, a5, a6, a7] blk = List.zipWith Sha.ad [a0, a1, a2, a3, a4, a5, a6, a7] (Sha.rounds (Sha.sched 48 W0) 64 [a0, a1, a2, a3, a4, a5, a6, a7])) := by
            show _ = _; rw [Sha.compress, ← HWW.out]
          generalize Sha.sched 48 W0 = W at *
          clear hW2 hbv hlt2 hw2 hs2 hcw ht2 HW1 HS1 HZ2 hc hc2 f1 z1 c1 k0 k1 k2 k3 k4 k5 k6 k7 hlw hsw HL2 HWW HS HT
          go_loopw [10, 11, 12, 69] (fun _ _ _ v wq => ∃ t : Nat, t ≤ 64 ∧ v = .int .i64 t ∧ wq.heap[bv]? = some (.cells (u32s (Sha.rounds W t [a0, a1, a2, a3, a4, a5, a6, a7])).toArray 95 (0, 0)) ∧ Chg (· = bv) W2 wq)
            (fun _ _ _ v _ => 64 - (intOf v).toNat)
          case atStart => exact ⟨0, by omega, rfl, hv0, Chg.refl _ _⟩
          case round =>
            obtain ⟨t, ht, rfl, hv, hc⟩ := hrel
            by_cases hlt : t < 64
            · obtain ⟨v0, v1, v2, v3, v4, v5, v6, v7, hV⟩ := len8 (Sha.rounds_length W t _ HL.out)
              have HV := Lib.hid hV
              rw [hV] at hv
              have hsv : Sha.Small [v0, v1, v2, v3, v4, v5, v6, v7] := by rw [← hV]; exact Sha.rounds_small W t _ hsm
              have b0 := Lib.hid (hsv v0 (by simp))
              have b1 := Lib.hid (hsv v1 (by simp))
              have b2 := Lib.hid (hsv v2 (by simp))
              have b3 := Lib.hid (hsv v3 (by simp))
              have b4 := Lib.hid (hsv v4 (by simp))
              have b5 := Lib.hid (hsv v5 (by simp))
              have b6 := Lib.hid (hsv v6 (by simp))
              have b7 := Lib.hid (hsv v7 (by simp))
              obtain ⟨k0, k1, k2, k3, k4, k5, k6, k7⟩ := eight_of hv (by rfl)
              simp only [List.getD_cons_zero, List.getD_cons_succ] at k0 k1 k2 k3 k4 k5 k6 k7
              have hwq : wr.heap[bw]? = some (.cells (u32s W).toArray 113 (0, 0)) := (hc.block bw (by rw [hz2]; have := HBV.out; omega) (by have := HBV.out; omega)).trans HW3.out
              have htq : Tab wr := HT3.out.kept (hc.block _ (by rw [hz2]; have := HBV.out; omega) (by have := HBV.out; omega))
              have cw := cell_u32s hwq (i := t) (by rw [hwl.out]; exact hlt)
              have ck := htq.cell (i := t) hlt
              have HKW : Hid (Sha.rounds W (t + 1) [a0, a1, a2, a3, a4, a5, a6, a7] = Sha.rnd [v0, v1, v2, v3, v4, v5, v6, v7] (Sha.K.getD t 0) (W.getD t 0)) := by show _ = _; rw [Sha.rounds, hV]
              have bk := Lib.hid (Sha.K_small.getD t)
              have bwt := Lib.hid (hws.out.getD t)
              generalize W.getD t 0 = xw at *
              generalize Sha.K.getD t 0 = xk at *
              have HV1 := Lib.hid hv
              clear hV hv hsv hwq htq
              go_wp2_with fail
              go_quiet ((go_at_call 71; exact Calls.quiet_of_same ((rotated_calls 6 11 25 v4 _ (by omega) (by omega) (by omega) (by omega) (by omega) (by omega) b4.out).mono fun _ _ ⟨he, hw⟩ => ⟨he, hw.symm⟩)))
              go_wp2_with fail
              refine wp_named ?_
              intro wq hwq
              have hcq : Chg (· = bv) W2 wq := by rw [hwq]; exact hc.drewN _
              have hqh : wq.heap = wr.heap := by rw [hwq]; rfl
              have cq : ∀ a, wq.cell? a = wr.cell? a := fun a => by rw [hwq]; rfl
              have hv1 := HV1.out
              rw [← hqh] at hv1
              replace k0 := (cq _).trans k0
              replace k1 := (cq _).trans k1
              replace k2 := (cq _).trans k2
              replace k3 := (cq _).trans k3
              replace k4 := (cq _).trans k4
              replace k5 := (cq _).trans k5
              replace k6 := (cq _).trans k6
              replace k7 := (cq _).trans k7
              clear hwq hqh cq HV1 hc ck cw
              rw [p_val b4.out b5.out b6.out]
              have HV1 := Lib.hid hv1
              clear hv1
              obtain ⟨p, HP⟩ : ∃ p, Hid (p = Sha.ad (Sha.ad (Sha.ad (Sha.ad v7 (Sha.bs1 v4)) (Sha.ch v4 v5 v6)) xk) xw) := ⟨_, rfl⟩
              rw [← HP.out]
              go_wp2_with fail
              go_quiet ((go_at_call 71; exact Calls.quiet_of_same ((rotated_calls 2 13 22 v0 _ (by omega) (by omega) (by omega) (by omega) (by omega) (by omega) b0.out).mono fun _ _ ⟨he, hw⟩ => ⟨he, hw.symm⟩)))
              go_wp2_with fail
              rw [q_val b0.out b1.out b2.out]
              obtain ⟨q, HQ⟩ : ∃ q, Hid (q = Sha.ad (Sha.bs0 v0) (Sha.mj v0 v1 v2)) := ⟨_, rfl⟩
              rw [← HQ.out]
              have hv2 := HV1.out
              go_region_law (refine step_copy_splice rfl (.tmp 116) (.tmp 117) 118 118 rfl 93 rfl rfl (some ⟨bv, 1, none⟩) (some ⟨bv, 0, none⟩) 7 7 7 8 (by simp [Act.eval, Act.put]) (by simp [Act.eval, Act.put]) bv 1 (u32s [v0, v1, v2, v3, v4, v5, v6, v7]) 95 hv2 (u32s [v0, v1, v2, v3, v4, v5, v6]) rfl (fun _ => ⟨rfl, _, rfl, src_cells (r := [v7]) hv2⟩) (by simp [u32s]) (u32s_one _) bv wq ⟨rfl, rfl, rfl, Nat.le_refl _, fun _ _ => rfl⟩ (Nat.le_refl _) ?_; intro w3 hw3 hb3; have hw4 : w3.heap[bv]? = some (.cells (u32s [v0, v0, v1, v2, v3, v4, v5, v6]).toArray 95 (0, 0)) := hw3.out; clear hw3)
              have hc3 : Chg (· = bv) W2 w3 := hcq.below1 hz2 hb3
              clear k0 k1 k2 k3 k4 k5 k6 k7 hb3 hcq hv2 HV1
              obtain ⟨k0, k1, k2, k3, k4, k5, k6, k7⟩ := eight_of hw4 (by rfl)
              simp only [List.getD_cons_zero, List.getD_cons_succ] at k0 k1 k2 k3 k4 k5 k6 k7
              have HW4 := Lib.hid hw4
              have fz : ∀ i, w3.frozen? ⟨bv, i, none⟩ = false := free_row hw4
              have fz0 := fz 0
              have fz4 := fz 4
              clear hw4 fz
              go_wp2_with fail
              simp only [ad_val]
              refine ⟨⟨t + 1, by omega, by go_num, ?_, (hc3.setCell (.inl rfl) _).setCell (.inl rfl) _⟩, by simp [intOf]; omega⟩
              have h1 := set_u32s HW4.out 4 (Sha.ad v3 p)
              have h2 := set_u32s h1 0 (Sha.ad p q)
              rw [h2, HKW.out, HP.out, HQ.out]
              rfl
            · -- [[4
              have ht64 : t = 64 := by omega
              subst ht64
              obtain ⟨V, HV0⟩ : ∃ V, Hid (V = Sha.rounds W 64 [a0, a1, a2, a3, a4, a5, a6, a7]) := ⟨_, rfl⟩
              rw [← HV0.out] at hv
              have HVL : Hid (V.length = 8) := by show _ = _; rw [HV0.out]; exact Sha.rounds_length _ _ _ HL.out
              have hsV : Sha.Small V := by rw [HV0.out]; exact Sha.rounds_small _ _ _ hsm
              have hs4 : wr.heap[bs]? = some (.cells (u32s [a0, a1, a2, a3, a4, a5, a6, a7]).toArray tS (0, 0)) := (hc.block bs (by rw [hz2]; have := HBV.out; omega) (by have := HBV.out; omega)).trans HS3.out
              have HV1 := Lib.hid hv
              have HS4 := Lib.hid hs4
              have HC := Lib.hid hc
              clear hv hs4 hc hlt ht
              rw [show ((64 : Nat) : Int) = 64 from rfl]
              have hc4 : Chg (fun _ => False) w wr := HCW.out.skip HC.out (by have := HBW.out; have := HBV.out; omega)
              have HC4 := Lib.hid hc4
              have hbvs : bv < wr.heap.size := lt_of_block HV1.out
              have hbss : bs ≠ bv := by have := HBV.out; omega
              have hbs0 : bs < w.heap.size := by have := HBW.out; omega
              clear hc4 HC HCW HS3 HT3 HW3 HBW hws hwl hz2 hv0 hbt
              generalize hSe : [a0, a1, a2, a3, a4, a5, a6, a7] = S at *
              have HSE := Lib.hid hSe
              clear hSe
              go_wp2_with fail
              go_loopw [13, 129] (fun _ v wq => ∃ k : Nat, k ≤ 8 ∧ v = .int .i64 k ∧ wq.heap[bs]? = some (.cells (u32s (mix k S V)).toArray tS (0, 0)) ∧ Chg (· = bs) wr wq)
                (fun _ v _ => 8 - (intOf v).toNat)
              case atStart => exact ⟨0, by omega, rfl, HS4.out, Chg.refl _ _⟩
              case round =>
                obtain ⟨k, hk, rfl, hs, hc⟩ := hrel
                by_cases hlt : k < 8
                · have hml := mix_length k S V (by rw [HL.out, HVL.out])
                  have c1 := cell_u32s hs (i := k) (by rw [hml, HL.out]; exact hlt)
                  rw [mix_get k S V (by rw [HL.out, HVL.out]) (by rw [HL.out]; exact hlt)] at c1
                  have hv := (hc.block bv hbvs (fun e => hbss e.symm)).trans HV1.out
                  have c2 := cell_u32s hv (i := k) (by rw [HVL.out]; exact hlt)
                  have fz := free_row hs k
                  have HS5 := Lib.hid hs
                  have hst := mix_set k S V (by rw [HL.out, HVL.out]) (by rw [HL.out]; exact hlt)
                  have HST := Lib.hid hst
                  generalize S.getD k 0 = x at *
                  generalize V.getD k 0 = y at *
                  clear hs hv hml hst
                  go_wp2_with fail
                  go_still_tail 11, (by kernel_rfl)
                  repeat still_step
                  refine wpList_named ?_
                  intro wd hwd
                  have hcd := hc.drew' hwd
                  replace c1 : wd.cell? ⟨bs, k, none⟩ = some (.int .u32 x) := by rw [hwd]; exact c1
                  replace fz : wd.frozen? ⟨bs, k, none⟩ = false := by rw [hwd]; exact fz
                  have HS6 : Hid (wd.heap[bs]? = some (.cells (u32s (mix k S V)).toArray tS (0, 0))) := by rw [hwd]; exact HS5.out
                  clear hwd hc c2 HS5
                  go_wp2_with fail
                  simp only [ad_val]
                  refine ⟨⟨k + 1, by omega, by go_num, ?_, hcd.setCell (.inl rfl) _⟩, by simp [intOf]; omega⟩
                  rw [set_u32s HS6.out, HST.out]
                · have hk8 : k = 8 := by omega
                  subst hk8
                  rw [mix_full S V (by rw [HL.out, HVL.out]) HL.out, HV0.out, ← HFIN.out] at hs
                  have HS5 := Lib.hid hs
                  have HC5 : Hid (Chg (· = bs) w _) := (HC4.out.mono fun _ _ h => h.elim).trans hc
                  clear hs hc hlt hk
                  rw [show ((8 : Nat) : Int) = 8 from rfl]
                  go_wp2_with fail
                  go_end0
                  exact ⟨⟨_, rfl⟩, HC5.out, by rw [HSE.out]; exact HS5.out⟩
              -- ]]4

end Go.Proofs.YtmifpokafaiebaaDoor
