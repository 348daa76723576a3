/- THE WALK OF digest.Sum. -/
import Derived.Test.YtmifpokafaiebaaDoorPut
namespace Go.Proofs.YtmifpokafaiebaaDoor
open Go.RowKit
set_option linter.unusedVariables false

/-- a slice of bytes that may be empty (then its pointer may be nil) -/
def SB (w : World) (p : Option Addr) (l : List UInt8) : Prop := l ≠ [] → ∃ b o, p = some ⟨b, o, none⟩ ∧ Bs w b o l

/-- The start of the state lies where the program's text lays it. -/
def Tab0 (w : World) : Prop := ∃ t fr, w.heap[0]? = some (.cells (u32s Sha.S0).toArray t fr)
theorem Tab0.lt {w : World} (h : Tab0 w) : 0 < w.heap.size := by
  obtain ⟨t, fr, h⟩ := h
  exact lt_of_block h
theorem Tab0.kept {w w' : World} (h : Tab0 w) (e : w'.heap[0]? = w.heap[0]?) : Tab0 w' := by
  obtain ⟨t, fr, h⟩ := h
  exact ⟨t, fr, e.trans h⟩

theorem blocks_succ : ∀ (k : Nat) (s : List Nat) (l : List UInt8), Sha.blocks (k + 1) s l = Sha.compress (Sha.blocks k s l) ((l.drop (64 * k)).take 64)
  | 0, s, l => by simp [Sha.blocks]
  | k + 1, s, l => by
    rw [Sha.blocks, blocks_succ k, Sha.blocks, List.drop_drop, show 64 + 64 * k = 64 * (k + 1) by omega]

theorem Bs.block {w : World} {b o : Nat} {l : List UInt8} (h : Bs w b o l) (hl : 0 < l.length) : b < w.heap.size := block_lt_of_cell (h 0 hl)
theorem mk_zeros (n : Nat) : madeCells (Value.int .u8 0).cells (n * 1) = (u8s (List.replicate n 0)).toArray := by
  apply Array.ext
  · simp [size_madeCells, u8s]
  · intro i h1 h2
    simp [madeCells, Value.cells, u8s, Nat.mod_one]

theorem Bs.src {w : World} {b o : Nat} {l : List UInt8} (h : Bs w b o l) (j : Nat) (v : Value) (hj : (u8s l)[j]? = some v) : w.cell? (Addr.add ⟨b, o, none⟩ j) = some v := by
  obtain ⟨hl, e⟩ := List.getElem?_eq_some_iff.1 hj
  rw [u8s_length] at hl
  have := h j hl
  have e2 : (Addr.add ⟨b, o, none⟩ j) = ⟨b, o + j, none⟩ := by simp [Addr.add]
  rw [e2, this, ← e]
  simp [u8s]
theorem u8s_one (l : List UInt8) : ∀ v ∈ u8s l, v.oneCell' = true := by
  intro v hv
  obtain ⟨n, _, rfl⟩ := List.mem_map.1 hv
  rfl
theorem Bs.of_row {w : World} {b o : Nat} {l r r2 : List UInt8} {t : TypeId} (h : w.heap[b]? = some (.cells (u8s (l ++ r)).toArray t (0, 0))) (hr : r2 <+: r) (ho : o = l.length) : Bs w b o r2 := fun i hi => by
  subst ho
  obtain ⟨r3, rfl⟩ := hr
  rw [cell_of_row w b _ _ t _ h, List.getElem?_toArray]
  unfold u8s
  rw [List.map_append, List.getElem?_append_right (by simp), List.length_map, Nat.add_sub_cancel_left, List.map_append, List.getElem?_append_left (by simpa using hi)]
  simp [hi]

theorem tail_set (R : List UInt8) (n : Nat) (hn : R.length = n) (h : n < 128) :
    (splice (u8s (List.replicate 128 0)) 0 (u8s R)).set n (.int .u8 128) = u8s (R ++ 128 :: List.replicate (127 - n) 0) := by
  unfold splice
  have e : 128 - n = (127 - n) + 1 := by omega
  rw [List.take_zero, List.nil_append, u8s_length, hn, Nat.zero_add]
  unfold u8s
  rw [List.map_replicate, List.drop_replicate, e, List.replicate_succ, List.set_append_right _ _ (by simp [hn]), List.map_append, List.length_map, hn, Nat.sub_self]
  simp

theorem row_cell {w : World} {b i : Nat} {cs : List Value} {t : TypeId} (h : w.heap[b]? = some (.cells cs.toArray t (0, 0))) (hi : i < cs.length) : ∃ v, w.cell? ⟨b, i, none⟩ = some v := by
  refine ⟨cs[i], ?_⟩
  rw [cell_of_row w b i _ t _ h, List.getElem?_toArray, List.getElem?_eq_getElem hi]

theorem fin_put (R : List UInt8) (n g o q N : Nat) (hn : R.length = n) (ho : o = n + 1 + g) (hq : q + (o + 8) = 128) :
    (u8s (R ++ 128 :: List.replicate (127 - n) 0)).take o ++ (u8s (Sha.be 8 N) ++ (u8s (R ++ 128 :: List.replicate (127 - n) 0)).drop (o + 8)) = u8s ((R ++ 128 :: (List.replicate g 0 ++ Sha.be 8 N)) ++ List.replicate q 0) := by
  have e1 : 127 - n = g + (8 + q) := by omega
  have e2 : R ++ 128 :: List.replicate (127 - n) (0 : UInt8) = (R ++ 128 :: List.replicate g 0) ++ (List.replicate 8 0 ++ List.replicate q 0) := by
    rw [e1, ← List.replicate_append_replicate, ← List.replicate_append_replicate]; simp
  have e3 : (R ++ 128 :: List.replicate g (0 : UInt8)).length = o := by simp; omega
  unfold u8s
  rw [← List.map_take, ← List.map_drop, e2, ← e3, List.take_left, ← List.drop_drop, List.drop_left, show List.drop 8 (List.replicate 8 (0 : UInt8) ++ List.replicate q 0) = List.replicate q 0 from rfl]
  simp

theorem be_mod : ∀ k x, Sha.be k (x % 256 ^ k) = Sha.be k x
  | 0, x => rfl
  | k + 1, x => by
    rw [Sha.be, Sha.be, Nat.pow_succ', Nat.mod_mul_right_div_self, be_mod k, Nat.mod_mul_right_mod]

theorem blocks_append : ∀ (k : Nat) (s : List Nat) (l r : List UInt8), 64 * k ≤ l.length → Sha.blocks k s (l ++ r) = Sha.blocks k s l
  | 0, _, _, _, _ => rfl
  | k + 1, s, l, r, h => by
    rw [Sha.blocks, Sha.blocks, List.take_append_of_le_length (by omega), List.drop_append_of_le_length (by omega), blocks_append k _ _ _ (by simp; omega)]

theorem padded_drop (l : List UInt8) (k n g N : Nat) (hn : n + 64 * k = l.length) (hg : g = Sha.gap l.length) (hN : N = l.length * 8 % 2 ^ 64) :
    (Sha.padded l).drop (64 * k) = (l.drop (64 * k)) ++ 128 :: (List.replicate g 0 ++ Sha.be 8 N) := by
  subst hg hN
  rw [Sha.padded, List.drop_append_of_le_length (by omega), show (2 : Nat) ^ 64 = 256 ^ 8 from rfl, be_mod]
theorem gap_val (m n k : Nat) (h : n + 64 * k = m) (hn : n < 64) : (55 < n ∧ Sha.gap m = 119 - n) ∨ (¬ 55 < n ∧ Sha.gap m = 55 - n) := by
  have : m % 64 = n := by omega
  unfold Sha.gap
  rw [this]
  split <;> omega

theorem Chg.trans2 {S : Nat → Prop} {A B C : World} {b : Nat} (h : Chg S A B) (k : Chg (· = b) B C) (hb : A.heap.size ≤ b) : Chg S A C :=
  ⟨k.os.trans h.os, k.tape.trans h.tape, k.output.trans h.output, Nat.le_trans h.size k.size, fun i hi hn => (k.block i (Nat.lt_of_lt_of_le hi h.size) (by show ¬ i = b; omega)).trans (h.block i hi hn)⟩
theorem Chg.of_below2 {S : Nat → Prop} {A B C : World} {n : Nat} (h : Chg S A B) (k : Below n B C) (hn : A.heap.size ≤ n) : Chg S A C :=
  ⟨k.os.trans h.os, k.tape.trans h.tape, k.output.trans h.output, Nat.le_trans h.size k.size, fun i hi hs => (k.block i (Nat.lt_of_lt_of_le hi hn)).trans (h.block i hi hs)⟩

def lenOf : Value → Nat
  | .slice _ n _ => n
  | _ => 0

theorem idx8 (x0 x1 x2 x3 x4 x5 x6 x7 i : Nat) (hi : i < 8) (w : World) :
    Sem.run Tryd.prog (Instr.index 95 (.agg #[.int .u32 x0, .int .u32 x1, .int .u32 x2, .int .u32 x3, .int .u32 x4, .int .u32 x5, .int .u32 x6, .int .u32 x7]) (.int .i64 i)) w = .ok (.int .u32 ([x0, x1, x2, x3, x4, x5, x6, x7].getD i 0 : Nat)) w := by
  have : i = 0 ∨ i = 1 ∨ i = 2 ∨ i = 3 ∨ i = 4 ∨ i = 5 ∨ i = 6 ∨ i = 7 := by omega
  rcases this with rfl | rfl | rfl | rfl | rfl | rfl | rfl | rfl
  all_goals exact (show _ = _ by kernel_rfl)

theorem cut8 (bd i : Nat) (hi : i < 8) (w : World) :
    Sem.run Tryd.prog (Instr.sliceAt 47 (.pointer (some ⟨bd, 0, none⟩)) (some (.int .i64 (4 * (i : Int)))) (some (.int .i64 (4 * (i : Int) + 4))) none) w = .ok (.slice (some ⟨bd, 4 * i, none⟩) 4 (32 - 4 * i)) w := by
  have : i = 0 ∨ i = 1 ∨ i = 2 ∨ i = 3 ∨ i = 4 ∨ i = 5 ∨ i = 6 ∨ i = 7 := by omega
  rcases this with rfl | rfl | rfl | rfl | rfl | rfl | rfl | rfl
  all_goals exact (show _ = _ by kernel_rfl)

theorem flat_len (V : List Nat) (k : Nat) (hV : V.length = 8) (hk : k ≤ 8) : ((V.take k).flatMap (Sha.be 4)).length = 4 * k := by
  rw [Sha.flat_length, List.length_take]; omega
theorem flat_room (V : List Nat) (k : Nat) (hV : V.length = 8) (hk : k < 8) : 4 * k + 4 ≤ ((V.take k).flatMap (Sha.be 4) ++ List.replicate (32 - 4 * k) 0).length := by
  rw [List.length_append, flat_len V k hV (by omega), List.length_replicate]; omega
theorem flat_put (V : List Nat) (k : Nat) (hV : V.length = 8) (hk : k < 8) :
    (u8s ((V.take k).flatMap (Sha.be 4) ++ List.replicate (32 - 4 * k) 0)).take (4 * k) ++ (u8s (Sha.be 4 (V.getD k 0)) ++ (u8s ((V.take k).flatMap (Sha.be 4) ++ List.replicate (32 - 4 * k) 0)).drop (4 * k + 4)) =
      u8s ((V.take (k + 1)).flatMap (Sha.be 4) ++ List.replicate (32 - 4 * (k + 1)) 0) := by
  have e := flat_len V k hV (by omega)
  unfold u8s
  rw [← List.map_take, ← List.map_drop, ← List.map_append, ← List.map_append, List.take_left' e, ← List.drop_drop, List.drop_left' e, List.drop_replicate, List.take_add_one]
  have h : V[k]?.toList = [V.getD k 0] := by simp [hV, hk]
  rw [h, List.flatMap_append, show 32 - 4 * (k + 1) = 32 - 4 * k - 4 by omega]
  simp

set_option maxRecDepth 100000 in
set_option maxHeartbeats 1000000 in
theorem sum_calls (p : Option Addr) (cap : Nat) (l : List UInt8) (w : World) (hcap : l.length ≤ cap) (hm : cap ≤ maxLen) (hb : SB w p l) (ht0 : Tab0 w) (ht1 : Tab w) :
    Calls Tryd.prog 45 #[.slice p l.length cap] w fun e w' => e = .returned (.agg (u8s (Sha.sum l)).toArray) ∧ Up w w' := by
  unfold maxLen at hm
  have HB := Lib.hid hb
  have HT0 := Lib.hid ht0
  have HT1 := Lib.hid ht1
  clear hb
  obtain ⟨a0, a1, a2, a3, a4, a5, a6, a7, hS⟩ := len8 (show Sha.S0.length = 8 from rfl)
  obtain ⟨W1, hW1⟩ : ∃ W1, W1 = w.alloc (Obj.cells #[Value.int .u8 0, Value.int .u8 0, Value.int .u8 0, Value.int .u8 0, Value.int .u8 0, Value.int .u8 0, Value.int .u8 0, Value.int .u8 0, Value.int .u8 0, Value.int .u8 0, Value.int .u8 0, Value.int .u8 0, Value.int .u8 0, Value.int .u8 0, Value.int .u8 0, Value.int .u8 0, Value.int .u8 0, Value.int .u8 0, Value.int .u8 0, Value.int .u8 0, Value.int .u8 0, Value.int .u8 0, Value.int .u8 0, Value.int .u8 0, Value.int .u8 0, Value.int .u8 0, Value.int .u8 0, Value.int .u8 0, Value.int .u8 0, Value.int .u8 0, Value.int .u8 0, Value.int .u8 0] 47 (0, 0)) := ⟨_, rfl⟩
  obtain ⟨tt, ff, ht0⟩ := ht0
  have kk : W1.heap[0]? = some (.cells (u32s [a0, a1, a2, a3, a4, a5, a6, a7]).toArray tt ff) := by
    rw [hW1, heap_old (lt_of_block ht0), ht0, hS]
  obtain ⟨k0, k1, k2, k3, k4, k5, k6, k7⟩ := eight_of kk rfl
  simp only [List.getD_cons_zero, List.getD_cons_succ] at k0 k1 k2 k3 k4 k5 k6 k7
  rw [hW1] at k0 k1 k2 k3 k4 k5 k6 k7
  have HS0 := Lib.hid hS
  clear ht0 ht1 hS kk hW1 W1
  go_enter Tryd.func45, Tryd.ntmps45
  go_wp2_with fail
  refine wp_named ?_
  intro W2 hW2
  obtain ⟨bd, hbd⟩ : ∃ bd, bd = w.heap.size := ⟨_, rfl⟩
  rw [← hbd]
  have hd2 : W2.heap[bd]? = some (.cells (u8s (List.replicate 32 0)).toArray 47 (0, 0)) := by rw [hW2, heap_old (by simp [hbd]), heap_new hbd]; rfl
  have hs2 : W2.heap[bd + 1]? = some (.cells (u32s Sha.S0).toArray 95 (0, 0)) := by rw [hW2, heap_new (by simp [hbd]), HS0.out]; rfl
  have hz2 : W2.heap.size = bd + 2 := by rw [hW2, hbd]; simp
  have hc2 : Chg (fun _ => False) w W2 := by rw [hW2]; exact (Chg.alloc' _ _ _).alloc _
  obtain ⟨bS, hbS⟩ : ∃ bS, bS = bd + 1 := ⟨_, rfl⟩
  rw [← hbS] at hs2
  rw [← hbS]
  generalize Value.agg #[Value.int .u32 a0, Value.int .u32 a1, Value.int .u32 a2, Value.int .u32 a3, Value.int .u32 a4, Value.int .u32 a5, Value.int .u32 a6, Value.int .u32 a7] = ag
  have HD2 := Lib.hid hd2
  have HS2 := Lib.hid hs2
  have HZ2 := Lib.hid hz2
  have HC2 := Lib.hid hc2
  have HBD := Lib.hid hbd
  have HBS := Lib.hid hbS
  clear hW2 k0 k1 k2 k3 k4 k5 k6 k7 hd2 hs2 hz2 hc2 hbd hbS HS0 a0 a1 a2 a3 a4 a5 a6 a7
  obtain ⟨nl, hnl⟩ : ∃ nl, nl = l.length := ⟨_, rfl⟩
  rw [← hnl] at hcap
  rw [← hnl]
  have HNL := Lib.hid hnl
  clear hnl
  have hbS2 : W2.heap.size = bS + 1 := by rw [HZ2.out, HBS.out]
  have TABS : Hid (∀ wq, Chg (· = bS) W2 wq → Tab wq ∧ bS ≠ 1) := by
    intro wq hq
    have hgn := HT1.out.lt
    exact ⟨(HT1.out.kept (HC2.out.block _ hgn (fun h => h))).kept (hq.block _ (by rw [HZ2.out, HBD.out]; omega) (by show ¬ _ = bS; rw [HBS.out, HBD.out]; omega)), by rw [HBS.out, HBD.out]; omega⟩
  go_loopw [5] (fun v wq => ∃ (k n c : Nat) (p' : Option Addr), Hid (n + 64 * k = l.length) ∧ n ≤ c ∧ c ≤ 2 ^ 63 - 1 ∧ v = .slice p' n c ∧ Hid (SB w p' (l.drop (64 * k))) ∧ Hid (wq.heap[bS]? = some (.cells (u32s (Sha.blocks k Sha.S0 l)).toArray 95 (0, 0))) ∧ Hid (Chg (· = bS) W2 wq))
    (fun v _ => lenOf v)
  case atStart => exact ⟨0, nl, cap, p, by show _ = _; rw [HNL.out]; omega, hcap, hm, rfl, HB, HS2, Chg.refl _ _⟩
  case round =>
    obtain ⟨k, n, c, p', hn, hnc, hc, rfl, HP, hs, hcc⟩ := hrel
    by_cases hlt : 64 ≤ n
    · obtain ⟨b, o, rfl, hB⟩ := HP.out (by intro e; have := congrArg List.length e; simp at this; have := hn.out; omega)
      have hln : (l.drop (64 * k)).length = n := by simp; have := hn.out; omega
      have hbw := hB.block (by rw [hln]; omega)
      have hbd2 : b < W2.heap.size := by rw [HZ2.out, HBD.out]; omega
      have hbS : b ≠ bS := by rw [HBS.out, HBD.out]; omega
      have hBr : Bs wr b o ((l.drop (64 * k)).take 64) := (((hB.kept (HC2.out.block b hbw (fun h => h))).kept (hcc.out.block b hbd2 hbS))).take 64
      have hgn := HT1.out.lt
      have htr : Tab wr := (HT1.out.kept (HC2.out.block _ hgn (fun h => h))).kept (hcc.out.block _ (by rw [HZ2.out, HBD.out]; omega) (by show ¬ _ = bS; rw [HBS.out, HBD.out]; omega))
      have hSn : bS ≠ 1 := by rw [HBS.out, HBD.out]; omega
      have HBr := Lib.hid hBr
      have HTr := Lib.hid htr
      have HP2 : Hid (SB w (if c = 64 then some ⟨b, o, none⟩ else some ⟨b, o + 64, none⟩) (l.drop (64 * (k + 1)))) := fun hne => ⟨b, o + 64, by
          have hc64 : c ≠ 64 := fun e => hne (List.drop_of_length_le (by have := hn.out; omega))
          rw [if_neg hc64], by
        have := hB.drop 64
        rw [List.drop_drop, show 64 * k + 64 = 64 * (k + 1) by omega] at this
        exact this⟩
      have hbl : ((l.drop (64 * k)).take 64).length = 64 := by rw [List.length_take, hln]; omega
      have HBL := Lib.hid hbl
      clear HP hB hln hbd2 hBr hgn htr hbl
      go_wp2_with fail
      refine (absorb_calls bS b o c (Sha.blocks k Sha.S0 l) ((l.drop (64 * k)).take 64) wr _ (Sha.blocks_length _ _ _ rfl) (Sha.blocks_small _ _ _ Sha.S0_small) HBL.out (by omega) (by unfold maxLen; omega) hs.out HBr.out hbS HTr.out hSn).mono ?_
      rintro e w3 ⟨⟨v3, rfl⟩, hc3, hs3⟩
      rw [← blocks_succ] at hs3
      have HS3 := Lib.hid hs3
      have HC3 : Hid (Chg (· = bS) W2 w3) := hcc.out.trans hc3
      clear hs3 hc3 hcc hs HBr HTr HBL hbw
      go_wp2_with fail
      exact ⟨⟨k + 1, n - 64, c - 64, _, by show _ = _; have := hn.out; omega, by omega, by omega, rfl, HP2, HS3, HC3⟩, by simp only [lenOf]; omega⟩
    · have hzz : (madeCells (Value.int .u8 0).cells (((128 : Int).toNat) * 1)) = (u8s (List.replicate 128 0)).toArray := mk_zeros 128
      have hmk := run_make (P := Tryd.prog) wr 27 5 _ _ rfl rfl rfl .i64 .i64 64 128 (by decide) (by decide) (by decide) (by decide)
      obtain ⟨W5, hW5⟩ : ∃ W5, W5 = wr.alloc (Obj.cells (u8s (List.replicate 128 0)).toArray 5 (0, 0)) := ⟨_, rfl⟩
      obtain ⟨be, hbe⟩ : ∃ be, be = wr.heap.size := ⟨_, rfl⟩
      replace hmk : Sem.run Tryd.prog (Instr.makeSlice 27 (Value.int .i64 64) (Value.int .i64 128)) wr = .ok (.slice (some ⟨be, 0, none⟩) 64 128) W5 := by
        rw [hbe, hW5, ← hzz]; exact hmk
      have h5e : W5.heap[be]? = some (.cells (u8s (List.replicate 128 0)).toArray 5 (0, 0)) := by rw [hW5, heap_new hbe]
      have h5s : Chg (· = bS) W2 W5 := by rw [hW5]; exact hcc.out.alloc _
      have hSz : bS < wr.heap.size := lt_of_block hs.out
      have h5b : W5.heap[bS]? = some (.cells (u32s (Sha.blocks k Sha.S0 l)).toArray 95 (0, 0)) := by rw [hW5, heap_old hSz]; exact hs.out
      have h5z : bS < be := by rw [hbe]; exact hSz
      have H5E := Lib.hid h5e
      have H5S := Lib.hid h5s
      have H5B := Lib.hid h5b
      clear h5e h5s h5b hSz hbe hW5 hzz hcc hs
      obtain ⟨R, hR⟩ : ∃ R, R = l.drop (64 * k) := ⟨_, rfl⟩
      rw [← hR] at HP
      have hRn : R.length = n := by rw [hR]; simp; have := hn.out; omega
      have HRN := Lib.hid hRn
      have HR := Lib.hid hR
      have hn64 : n < 64 := by omega
      have hpos : 0 < (u8s R).length → (some (⟨be, 0, none⟩ : Addr) = some ⟨be, 0, none⟩ ∧ ∃ ad, p' = some ad ∧ ∀ j v, (u8s R)[j]? = some v → W5.cell? (ad.add j) = some v) := by
        intro h0
        obtain ⟨b, o, rfl, hB⟩ := HP.out (by rintro rfl; simp [u8s] at h0)
        have hbw := hB.block (by rwa [u8s_length] at h0)
        refine ⟨rfl, _, rfl, ((hB.kept (HC2.out.block b hbw (fun h => h))).kept (H5S.out.block b ?_ ?_)).src⟩
        · rw [HZ2.out, HBD.out]; omega
        · show ¬ b = bS; rw [HBS.out, HBD.out]; omega
      have HPOS := Lib.hid hpos
      clear hR hRn hpos HP
      have hwrap : IntKind.u64.wrap ((nl : Int) * 8) = ((nl * 8 % 2 ^ 64 : Nat) : Int) := by go_num
      obtain ⟨N, hN⟩ : ∃ N, N = nl * 8 % 2 ^ 64 := ⟨_, rfl⟩
      rw [← hN] at hwrap
      have HN := Lib.hid hN
      clear hN
      go_wp2_with (refine wpList_copy_splice rfl (.tmp 22) (.tmp 23) 27 27 rfl 5 rfl rfl (some ⟨be, 0, none⟩) p' 64 128 n c (by simp [Act.eval]) (by simp [Act.eval]) be 0 (u8s (List.replicate 128 0)) 5 H5E.out (u8s R) (by rw [u8s_length, HRN.out]; exact (Nat.min_eq_left (by omega)).symm) HPOS.out (by rw [u8s_length, HRN.out]; simp [u8s]; omega) (u8s_one _) be W5 (Below.refl _ _) (Nat.le_refl _) ?_; intro w6 h6 b6; have fz6 := free_row h6.out n; obtain ⟨old, cl6⟩ : ∃ v, w6.cell? ⟨be, n, none⟩ = some v := row_cell h6.out (by rw [length_splice _ _ _ (by simp [u8s]; have := HRN.out; omega)]; simp [u8s]; omega))
      all_goals
        have h7 : (w6.setCell ⟨be, n, none⟩ (.int .u8 128)).heap[be]? = some (.cells (u8s (R ++ 128 :: List.replicate (127 - n) 0)).toArray 5 (0, 0)) := by
          rw [heap_setCell_same _ be _ _ _ _ h6.out, ← tail_set R n HRN.out (by omega)]; simp
        have hbe2 : W2.heap.size ≤ be := by rw [HZ2.out]; have := HBS.out; omega
        have c6 : Chg (· = bS) W2 (w6.setCell ⟨be, n, none⟩ (.int .u8 128)) := (H5S.out.of_below2 b6 hbe2).setCell (.inr hbe2) _
        have s7 : (w6.setCell ⟨be, n, none⟩ (.int .u8 128)).heap[bS]? = some (.cells (u32s (Sha.blocks k Sha.S0 l)).toArray 95 (0, 0)) := by
          rw [heap_setCell_other _ _ _ _ (by show bS ≠ be; omega), b6.block bS h5z]; exact H5B.out
        generalize w6.setCell ⟨be, n, none⟩ (.int .u8 128) = W7 at *
        have hgv := gap_val l.length n k hn.out hn64
        have hpd := padded_drop l k n (Sha.gap l.length) N hn.out rfl (by rw [HN.out, HNL.out])
        rw [← HR.out] at hpd
        generalize Sha.gap l.length = g at *
        refine (put_calls be _ 8 _ N (u8s (R ++ 128 :: List.replicate (127 - n) 0)) 5 W7 (by rw [HN.out]; exact Nat.mod_lt _ (by decide)) (by omega) (by omega) (by unfold maxLen; omega) (by rw [u8s_length]; simp [HRN.out]; omega) h7).mono ?_
        rintro e w8 ⟨⟨v8, rfl⟩, c8, h8⟩
        rw [fin_put R n g _ (128 - (n + 1 + g + 8)) N HRN.out (by omega) (by omega), ← hpd] at h8
        have hX : ((Sha.padded l).drop (64 * k)).length = n + 1 + g + 8 := by rw [hpd]; simp [HRN.out, Sha.be_length]; omega
        have hB0 : Sha.blocks k Sha.S0 l = Sha.blocks k Sha.S0 (Sha.padded l) := (blocks_append k _ _ _ (by have := hn.out; omega)).symm
        rw [hB0] at s7
        have C8 : Hid (Chg (· = bS) W2 w8) := c6.trans2 c8 hbe2
        have S8 : Hid (w8.heap[bS]? = some (.cells (u32s (Sha.blocks k Sha.S0 (Sha.padded l))).toArray 95 (0, 0))) := (c8.block bS (lt_of_block s7) (by show ¬ bS = be; omega)).trans s7
        have H8 := Lib.hid h8
        have HX := Lib.hid hX
        clear h8 s7 c6 c8 h7 hpd hX hB0
        go_wp2_with fail
        have hL : n + 1 + g + 8 = 64 ∨ n + 1 + g + 8 = 128 := by omega
        go_loopw [6] (fun v wq => ∃ (j m c : Nat) (p' : Option Addr), Hid (m + 64 * j = n + 1 + g + 8) ∧ m ≤ c ∧ c ≤ 2 ^ 63 - 1 ∧ v = .slice p' m c ∧ Hid (m ≠ 0 → p' = some ⟨be, 64 * j, none⟩) ∧ Hid (wq.heap[bS]? = some (.cells (u32s (Sha.blocks (k + j) Sha.S0 (Sha.padded l))).toArray 95 (0, 0))) ∧ Hid (Chg (· = bS) w8 wq))
          (fun v _ => lenOf v)
        case atStart => exact ⟨0, _, _, _, (by show _ = _; omega), (by omega), (by omega), rfl, (fun _ => rfl), S8, Chg.refl _ _⟩
        case round =>
          obtain ⟨j, m, c', p'', hm1, hmc, hc1, rfl, HP1, hs1, hcc1⟩ := hrel
          by_cases hm0 : m = 0
          · subst hm0
            have hkj : k + j = (Sha.padded l).length / 64 := by
              have := HX.out
              have := hm1.out
              have := hn.out
              simp only [List.length_drop] at *
              omega
            have hsv := hs1.out
            rw [hkj] at hsv
            obtain ⟨V, hV⟩ : ∃ V, V = Sha.blocks ((Sha.padded l).length / 64) Sha.S0 (Sha.padded l) := ⟨_, rfl⟩
            rw [← hV] at hsv
            have hVl : V.length = 8 := by rw [hV]; exact Sha.blocks_length _ _ _ rfl
            have hVs : Sha.Small V := by rw [hV]; exact Sha.blocks_small _ _ _ Sha.S0_small
            have hfin : Sha.sum l = V.flatMap (Sha.be 4) := by rw [hV]; rfl
            have HFIN := Lib.hid hfin
            have HDD : Hid (wr.heap[bd]? = some (.cells (u8s (List.replicate 32 0)).toArray 47 (0, 0))) :=
              ((C8.out.trans hcc1.out).block bd (by rw [HZ2.out]; omega) (by show ¬ bd = bS; rw [HBS.out]; omega)).trans HD2.out
            have HCW : Hid (Chg (fun _ => False) w wr) := HC2.out.skip (C8.out.trans hcc1.out) (by rw [HBS.out, HBD.out]; omega)
            have HVS := Lib.hid hVs
            obtain ⟨x0, x1, x2, x3, x4, x5, x6, x7, hVe⟩ := len8 hVl
            rw [hVe] at hsv
            obtain ⟨k0, k1, k2, k3, k4, k5, k6, k7⟩ := eight_of hsv rfl
            simp only [List.getD_cons_zero, List.getD_cons_succ] at k0 k1 k2 k3 k4 k5 k6 k7
            have HVE := Lib.hid hVe
            clear hVe hfin hVs hVl hV hsv hkj hs1 hcc1 HP1 hm1
            go_wp2_with fail
            go_loopw [7, 8, 54] (fun _ _ i wq => ∃ k : Nat, k ≤ 8 ∧ i = .int .i64 k ∧ Hid (wq.heap[bd]? = some (.cells (u8s ((V.take k).flatMap (Sha.be 4) ++ List.replicate (32 - 4 * k) 0)).toArray 47 (0, 0))) ∧ Hid (Chg (fun _ => False) w wq))
              (fun _ _ i _ => 8 - (intOf i).toNat)
            case atStart => exact ⟨0, by omega, rfl, HDD, HCW⟩
            case round =>
              obtain ⟨i, hi, rfl, hd1, hc1⟩ := hrel
              by_cases hi8 : i < 8
              · have hx := idx8 x0 x1 x2 x3 x4 x5 x6 x7 i hi8 wr
                rw [← HVE.out] at hx
                have hxs := HVS.out.getD i
                have hcut := cut8 bd i hi8 wr
                obtain ⟨x, HXe⟩ : ∃ x, Hid (x = V.getD i 0) := ⟨_, rfl⟩
                rw [← HXe.out] at hx hxs
                have e3 : IntKind.i64.wrap (4 * (i : Int)) = 4 * (i : Int) := IntWalk.i64_in _ (by omega)
                have e4 : IntKind.i64.wrap (4 * (i : Int) + 4) = 4 * (i : Int) + 4 := IntWalk.i64_in _ (by omega)
                go_wp2_with fail
                refine (put_calls bd (4 * i) 4 (32 - 4 * i) x _ 47 wr (by omega) (by omega) (by omega) (by unfold maxLen; omega) (by rw [u8s_length]; exact flat_room V i (by rw [HVE.out]; rfl) hi8) hd1.out).mono ?_
                rintro e w9 ⟨⟨v9, rfl⟩, c9, h9⟩
                rw [HXe.out, flat_put V i (by rw [HVE.out]; rfl) hi8] at h9
                have H9 := Lib.hid h9
                have HC9 : Hid (Chg (fun _ => False) w w9) := hc1.out.skip c9 (by rw [HBD.out]; omega)
                clear h9 c9 hd1 hc1 hx hxs HXe
                go_wp2_with fail
                exact ⟨⟨i + 1, by omega, by go_num, H9, HC9⟩, by simp [intOf]; omega⟩
              · have hi8' : i = 8 := by omega
                subst hi8'
                have hd2 : wr.heap[bd]? = some (.cells (u8s (Sha.sum l)).toArray 47 (0, 0)) := by
                  rw [hd1.out, HFIN.out, HVE.out]; simp
                obtain ⟨D, hD⟩ : ∃ D, D = (u8s (Sha.sum l)).toArray := ⟨_, rfl⟩
                rw [← hD] at hd2
                have hDs : D.size = 32 := by rw [hD, List.size_toArray, u8s_length, Sha.sum_length]
                have hDc : D.all (·.oneCell') = true := by
                  rw [hD, Array.all_eq_true_iff_forall_mem]
                  intro v hv
                  exact u8s_one _ v (by simpa using hv)
                have HD9 := Lib.hid hd2
                have HDs := Lib.hid hDs
                have HDc := Lib.hid hDc
                have HD := Lib.hid hD
                clear hd1 hd2 hDs hDc hD
                go_wp2_with (first | refine wpList_load_row rfl 47 (.tmp 2) rfl bd (by simp [Act.eval]) 47 D (0, 0) _ HD9.out rfl rfl (by rw [HDs.out]; rfl) ?_ | refine wpList_store_row rfl 47 (.tmp 2) (.tmp 68) rfl bd D rfl rfl 47 D HD9.out (by rw [HDs.out]; rfl) rfl HDc.out ?_)
                refine bodyPost_ret (results_cell_row rfl _ _ bd _ D (0, 0) _ rfl (setRow_heap _ _ _ _ _ _ HD9.out) rfl rfl (by rw [HDs.out]; rfl)) rfl ?_
                exact ⟨by rw [HD.out], below_setRow (hc1.out.below (Nat.le_refl _) (fun _ _ h => h)) (by rw [HBD.out]; exact Nat.le_refl _) _⟩
          · have hm64 : 64 ≤ m := by have := hm1.out; omega
            obtain rfl := HP1.out hm0
            have hXj : (((Sha.padded l).drop (64 * (k + j))).take 64).length = 64 := by
              have := HX.out
              have := hm1.out
              simp only [List.length_drop, List.length_take] at *
              omega
            have hBr : Bs wr be (64 * j) (((Sha.padded l).drop (64 * (k + j))).take 64) := by
              have e := (hcc1.out.block be (lt_of_block H8.out) (by show ¬ be = bS; omega)).trans H8.out
              rw [← List.take_append_drop (64 * j) ((Sha.padded l).drop (64 * k)), List.append_assoc, List.drop_drop, show 64 * k + 64 * j = 64 * (k + j) by omega] at e
              refine Bs.of_row e ?_ ?_
              · exact (List.take_prefix _ _).trans (List.prefix_append _ _)
              · rw [List.length_take, HX.out]; have := hm1.out; omega
            obtain ⟨htr, hSn⟩ := TABS.out wr (C8.out.trans hcc1.out)
            have HBr := Lib.hid hBr
            have HTr := Lib.hid htr
            have HXJ := Lib.hid hXj
            have HP2 : Hid (m - 64 ≠ 0 → (if c' = 64 then some ⟨be, 64 * j, none⟩ else some ⟨be, 64 * j + 64, none⟩ : Option Addr) = some ⟨be, 64 * (j + 1), none⟩) := by
              intro h
              rw [if_neg (by omega), show 64 * j + 64 = 64 * (j + 1) by omega]
            clear hBr htr hXj HP1
            have hbne : be ≠ bS := by omega
            go_wp2_with fail
            refine (absorb_calls bS be (64 * j) c' (Sha.blocks (k + j) Sha.S0 (Sha.padded l)) (((Sha.padded l).drop (64 * (k + j))).take 64) wr _ (Sha.blocks_length _ _ _ rfl) (Sha.blocks_small _ _ _ Sha.S0_small) HXJ.out (by omega) (by unfold maxLen; omega) hs1.out HBr.out hbne HTr.out hSn).mono ?_
            rintro e w3 ⟨⟨v3, rfl⟩, hc3, hs3⟩
            rw [← blocks_succ] at hs3
            have HS3 := Lib.hid hs3
            have HC3 : Hid (Chg (· = bS) w8 w3) := hcc1.out.trans hc3
            clear hs3 hc3 hcc1 hs1 HBr HTr HXJ
            go_wp2_with fail
            exact ⟨⟨j + 1, m - 64, c' - 64, _, by show _ = _; have := hm1.out; omega, by omega, by omega, rfl, HP2, HS3, HC3⟩, by simp only [lenOf]; omega⟩

end Go.Proofs.YtmifpokafaiebaaDoor
