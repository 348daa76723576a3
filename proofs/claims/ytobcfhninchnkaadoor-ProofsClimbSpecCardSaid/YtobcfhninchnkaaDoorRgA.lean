/- the reference acequiaref57: Sides, Climb. the reference acequiaref57: Climb, inside the range. the reference acequiaref57: Check of a root; rows of texts. the reference acequiaref57: texts. slices.Equal of bytes; what Collide finds, plain. -/
import Derived.Test.YtobcfhninchnkaaDoorRfA
namespace Go.Proofs.YtobcfhninchnkaaDoor
open Go Go.RowKit
set_option linter.unusedVariables false
set_option maxRecDepth 100000

def bEnc (b : Bool) : List Value := [.bool b]
theorem bEnc_len (b : Bool) : (bEnc b).length = 1 := rfl
theorem bEnc_one (b : Bool) : ∀ u ∈ bEnc b, u.oneCell' = true := by intro u hu; simp only [bEnc, List.mem_singleton] at hu; subst hu; rfl
theorem eltBool : EltT Tryd.prog 70 4 1 1 := ⟨rfl, _, _, rfl, rfl, by kernel_rfl, by kernel_rfl, by kernel_rfl⟩
/-- the sides of a way, from the leaf on -/
def sidesB (n i : Nat) : List Bool := (turnsS n i).reverse.map fun t => decide (t.2 ≠ 1)
theorem sidesB_one (i : Nat) {n : Nat} (h : n ≤ 1) : sidesB n i = [] := by unfold sidesB; rw [turnsS_one i h]; rfl
theorem sidesB_left {n i : Nat} (h : 2 ≤ n) (hi : i < hf n) : sidesB n i = sidesB (hf n) i ++ [false] := by
  unfold sidesB; rw [turnsS_left h hi, List.reverse_cons, List.map_append]; rfl
theorem sidesB_right {n i : Nat} (h : 2 ≤ n) (hi : hf n ≤ i) : sidesB n i = sidesB (n - hf n) (i - hf n) ++ [true] := by
  unfold sidesB; rw [turnsS_right h hi, List.reverse_cons, List.map_append]; rfl
theorem sidesB_length (n i : Nat) : (sidesB n i).length = (turnsS n i).length := by simp [sidesB]
def RetS (w : World) (l : List Bool) (e : Ending) (w' : World) : Prop := ∃ v, e = .returned v ∧ OwnR w' w.heap.size 4 1 bEnc v l ∧ Up w w'

set_option maxHeartbeats 4000000 in
theorem rsides_calls : ∀ (k n i : Nat) (w : World), n = k → i < n → n ≤ 700 →
    Calls Tryd.prog 38 #[.int .i64 n, .int .i64 i] w (RetS w (sidesB n i)) := by
  intro k
  induction k using Nat.strongRecOn with
  | ind k ih =>
    intro n i w hk hin hn7
    by_cases h2 : n = 1
    case pos =>
      rw [sidesB_one i (by omega)]
      clear ih hk
      subst h2
      go_enter Tryd.func38, Tryd.ntmps38
      go_wp2
      go_ret
      exact ⟨_, rfl, OwnR.nil, Up.refl _⟩
    have d1 : ((n : Int) == 1) = false := by rw [beq_eq_false_iff_ne]; omega
    have h2n : 2 ≤ n := by omega
    have hlt := hf_lt h2n
    have hpos := hf_pos n
    by_cases hj : i < hf n
    case pos =>
      rw [sidesB_left h2n hj]
      have PT := Lib.hid fun W => ih (hf n) (by omega) (hf n) i W rfl hj (by omega)
      have hsl : (sidesB (hf n) i).length ≤ 700 := by
        rw [sidesB_length]
        have := turnsS_length (hf n) (hf n) i rfl
        omega
      obtain ⟨PP, hPP⟩ : ∃ P, P = sidesB (hf n) i := ⟨_, rfl⟩
      rw [← hPP] at PT hsl ⊢
      have HPL := Lib.hid hsl
      obtain ⟨q, hq⟩ : ∃ q, q = hf n := ⟨_, rfl⟩
      have HQ := Lib.hid hq
      rw [← hq] at PT hlt hpos hj
      clear hPP hq hsl ih hk
      go_enter Tryd.func38, Tryd.ntmps38
      go_wp2
      go_loop [5] (fun v3 => ∃ m : Nat, v3 = .int .i64 m ∧ Hid (Pow2 m) ∧ 0 < m ∧ m < n) (fun v3 => n - (intOf v3).toNat)
      case atStart => exact ⟨1, rfl, Pow2.one, by omega, by omega⟩
      case round =>
        obtain ⟨m, rfl, HP, hq0, hqn⟩ := hrel
        by_cases hlt2 : 2 * m < n
        case pos =>
          have HP2 : Hid (Pow2 (2 * m)) := HP.out.two
          have d3 : decide ((2 : Int) * (m : Int) < (n : Int)) = true := by simp; omega
          clear hj hlt hpos
          go_wp2
          exact ⟨⟨2 * m, by simp, HP2, by omega, hlt2⟩, by simp [intOf]; omega⟩
        have d3 : decide ((2 : Int) * (m : Int) < (n : Int)) = false := by simp; omega
        obtain rfl : m = q := by rw [HQ.out]; exact HP.out.hf hqn (by omega)
        have d4 : decide ((i : Int) < (m : Int)) = true := by simp; omega
        clear HQ HP hlt2
        go_wp2_with fail
        refine (PT.out w).mono ?_
        rintro e w1 ⟨v, rfl, o1, u1⟩
        obtain ⟨p1, c1, rfl, -, -, -, -⟩ := o1.form (fun x _ => bEnc_len x)
        have U1 := Lib.hid u1
        have O1 := Lib.hid o1
        have hpl : PP.length ≤ 700 := HPL.out
        clear o1 u1
        go_wp2_with (refine wpList_named ?_; intro W4 hW4; at_builtin; (have hu : Up w1 W4 := by (rw [hW4]; exact (Up.refl w1).alloc _)); (have hr : RowAt W4 (some ⟨w1.heap.size, 0, none⟩) 1 bEnc [false] := rowAt_one (D := #[.bool false]) rfl (by (rw [hW4]; exact heap_new rfl))); refine wpList_appR rfl (.tmp 19) (.tmp 20) eltBool (by omega) rfl rfl w.heap.size _ PP _ 1 1 [false] rfl rfl rfl (fun x _ => bEnc_len x) (fun x _ => bEnc_one x) (O1.out.up hu) hr (by simp; omega) (Nat.le_trans U1.out.size hu.size) ?_; intro p' m' d' w5 o5 b5 _; have O5 := Lib.hid o5; (have U5 : Hid (Up w w5) := Below.trans (Up.trans U1.out hu) b5); clear o5 b5 hr hu hW4)
        go_ret
        exact ⟨_, rfl, O5.out, U5.out⟩
    case neg =>
      rw [sidesB_right h2n (by omega)]
      have PT := Lib.hid fun W => ih (n - hf n) (by omega) (n - hf n) (i - hf n) W rfl (by omega) (by omega)
      have hsl : (sidesB (n - hf n) (i - hf n)).length ≤ 700 := by
        rw [sidesB_length]
        have := turnsS_length (n - hf n) (n - hf n) (i - hf n) rfl
        omega
      obtain ⟨PP, hPP⟩ : ∃ P, P = sidesB (n - hf n) (i - hf n) := ⟨_, rfl⟩
      rw [← hPP] at PT hsl ⊢
      have HPL := Lib.hid hsl
      obtain ⟨q, hq⟩ : ∃ q, q = hf n := ⟨_, rfl⟩
      have HQ := Lib.hid hq
      obtain ⟨i2, hi2⟩ : ∃ i2, i2 = i - hf n := ⟨_, rfl⟩
      obtain ⟨n2, hn2⟩ : ∃ n2, n2 = n - hf n := ⟨_, rfl⟩
      rw [← hi2, ← hn2] at PT
      have e1 : IntKind.i64.wrap ((i : Int) - (q : Int)) = (i2 : Int) := by rw [IntWalk.i64_in _ (by omega)]; omega
      have e2 : IntKind.i64.wrap ((n : Int) - (q : Int)) = (n2 : Int) := by rw [IntWalk.i64_in _ (by omega)]; omega
      have e1' : (i : Int) - (q : Int) = (i2 : Int) := by omega
      have e2' : (n : Int) - (q : Int) = (n2 : Int) := by omega
      have E1 := Lib.hid e1
      have E2 := Lib.hid e2
      have E1' := Lib.hid e1'
      have E2' := Lib.hid e2'
      clear e1 e2 e1' e2'
      rw [← hq] at hlt hpos hj
      clear hPP hq hi2 hn2 hsl ih hk
      go_enter Tryd.func38, Tryd.ntmps38
      go_wp2
      go_loop [5] (fun v3 => ∃ m : Nat, v3 = .int .i64 m ∧ Hid (Pow2 m) ∧ 0 < m ∧ m < n) (fun v3 => n - (intOf v3).toNat)
      case atStart => exact ⟨1, rfl, Pow2.one, by omega, by omega⟩
      case round =>
        obtain ⟨m, rfl, HP, hq0, hqn⟩ := hrel
        by_cases hlt2 : 2 * m < n
        case pos =>
          have HP2 : Hid (Pow2 (2 * m)) := HP.out.two
          have d3 : decide ((2 : Int) * (m : Int) < (n : Int)) = true := by simp; omega
          clear hj hlt hpos
          go_wp2
          exact ⟨⟨2 * m, by simp, HP2, by omega, hlt2⟩, by simp [intOf]; omega⟩
        have d3 : decide ((2 : Int) * (m : Int) < (n : Int)) = false := by simp; omega
        obtain rfl : m = q := by rw [HQ.out]; exact HP.out.hf hqn (by omega)
        have d4 : decide ((i : Int) < (m : Int)) = false := by simp; omega
        clear HQ HP hlt2
        have e1 := E1.out
        have e2 := E2.out
        have e1' := E1'.out
        have e2' := E2'.out
        clear E1 E2 E1' E2'
        go_wp2_with fail
        refine (PT.out w).mono ?_
        rintro e w1 ⟨v, rfl, o1, u1⟩
        obtain ⟨p1, c1, rfl, -, -, -, -⟩ := o1.form (fun x _ => bEnc_len x)
        have U1 := Lib.hid u1
        have O1 := Lib.hid o1
        have hpl : PP.length ≤ 700 := HPL.out
        clear o1 u1 e1 e2 e1' e2'
        go_wp2_with (refine wpList_named ?_; intro W4 hW4; at_builtin; (have hu : Up w1 W4 := by (rw [hW4]; exact (Up.refl w1).alloc _)); (have hr : RowAt W4 (some ⟨w1.heap.size, 0, none⟩) 1 bEnc [true] := rowAt_one (D := #[.bool true]) rfl (by (rw [hW4]; exact heap_new rfl))); refine wpList_appR rfl (.tmp 28) (.tmp 29) eltBool (by omega) rfl rfl w.heap.size _ PP _ 1 1 [true] rfl rfl rfl (fun x _ => bEnc_len x) (fun x _ => bEnc_one x) (O1.out.up hu) hr (by simp; omega) (Nat.le_trans U1.out.size hu.size) ?_; intro p' m' d' w5 o5 b5 _; have O5 := Lib.hid o5; (have U5 : Hid (Up w w5) := Below.trans (Up.trans U1.out hu) b5); clear o5 b5 hr hu hW4)
        go_ret
        exact ⟨_, rfl, O5.out, U5.out⟩

set_option maxHeartbeats 2000000 in
theorem rclimb_range (n i : Int) (x : Sh) (p : Option Addr) (m c : Nat) (ps : List Sm) (w : World) (h : climbE n i x ps = 2 ∨ climbE n i x ps = 1) :
    Calls Tryd.prog 17 #[.int .i64 n, .int .i64 i, .agg (shCells x), .slice p m c] w fun e w' => e = .returned (.tuple #[.agg (smCells (climbS n i x ps)).toArray, .int .i64 (climbE n i x ps)]) ∧ Up w w' := by
  have hS : climbS n i x ps = zeroS := by unfold climbS; rw [if_neg (by omega)]
  rw [hS]
  have hzs : Hid ((smCells zeroS).toArray.size = 35) := by show _ = _; simp [smCells, zeroS, u8s]
  have hzc : Hid ((smCells zeroS).toArray.all (·.oneCell') = true) := smCells_all _
  have BZ : Hid (Tryd.prog.built 28 [] = some (smCells zeroS).toArray) := by show _ = _; kernel_rfl
  obtain ⟨Z, hZ⟩ : ∃ Z, Z = (smCells zeroS).toArray := ⟨_, rfl⟩
  rw [← hZ] at hzs hzc BZ
  have HZ := Lib.hid hZ
  rw [← hZ]
  clear hZ
  obtain ⟨A, hA⟩ : ∃ A, A = shCells x := ⟨_, rfl⟩
  rw [← hA]
  clear hS hA HZ
  by_cases h1 : n < 1 ∨ 600 < n
  case pos =>
    have he : climbE n i x ps = 2 := by unfold climbE; rw [if_pos h1]
    rw [he]
    clear he h
    have d : Hid (decide (n < 1) = true ∨ (decide (n < 1) = false ∧ decide (600 < n) = true)) := by
      show _ ∨ _
      rcases Classical.em (n < 1) with h | h
      · left; simpa using h
      · right; simp; omega
    clear h1
    rcases d.out with d1 | ⟨d1, d2⟩
    · clear d
      go_enter Tryd.func17, Tryd.ntmps17
      go_wp2_with (first | (refine wpList_named ?_; intro W1 hW1; refine wpList_allocG rfl 28 35 allocsSum rfl ?_; intro W2 u2 z2 hz2; obtain ⟨Z2, hZ2, hb2⟩ := hz2; (have u1 : Up w W1 := by (rw [hW1]; exact (Up.refl w).alloc _)); (have xb : W1.heap[w.heap.size]? = some (.cells A 38 (0, 0)) := by (rw [hW1]; exact heap_new rfl)); have XB := Lib.hid ((u2.block _ (lt_of_block xb)).trans xb); have U2 := Lib.hid (Up.trans u1 u2); have HZ2 := Lib.hid hZ2; have HB2 := Lib.hid hb2; (have hg8 : w.heap.size ≤ W1.heap.size := by (rw [hW1]; simp)); have HG8 := Lib.hid hg8; clear u2 u1 z2 hZ2 hb2 hW1 xb hg8) | (refine wpList_buildTo rfl 28 #[] rfl (some 20) rfl Z (by simpa [Act.eval] using BZ.out) ?_) | (refine wpList_store_row rfl 28 (.tmp 8) (.tmp 20) rfl _ Z rfl rfl 28 _ HB2.out (by rw [hzs.out]; rfl) (by rw [HZ2.out, hzs.out]) hzc.out ?_))
      refine bodyPost_ret (results_cell_row_tmp rfl _ _ _ _ Z (0, 0) _ rfl (setRow_heap _ _ _ _ _ _ HB2.out) rfl rfl (by rw [hzs.out]; rfl)) rfl ⟨rfl, below_setRow U2.out HG8.out _⟩
    · clear d
      go_enter Tryd.func17, Tryd.ntmps17
      go_wp2_with (first | (refine wpList_named ?_; intro W1 hW1; refine wpList_allocG rfl 28 35 allocsSum rfl ?_; intro W2 u2 z2 hz2; obtain ⟨Z2, hZ2, hb2⟩ := hz2; (have u1 : Up w W1 := by (rw [hW1]; exact (Up.refl w).alloc _)); (have xb : W1.heap[w.heap.size]? = some (.cells A 38 (0, 0)) := by (rw [hW1]; exact heap_new rfl)); have XB := Lib.hid ((u2.block _ (lt_of_block xb)).trans xb); have U2 := Lib.hid (Up.trans u1 u2); have HZ2 := Lib.hid hZ2; have HB2 := Lib.hid hb2; (have hg8 : w.heap.size ≤ W1.heap.size := by (rw [hW1]; simp)); have HG8 := Lib.hid hg8; clear u2 u1 z2 hZ2 hb2 hW1 xb hg8) | (refine wpList_buildTo rfl 28 #[] rfl (some 20) rfl Z (by simpa [Act.eval] using BZ.out) ?_) | (refine wpList_store_row rfl 28 (.tmp 8) (.tmp 20) rfl _ Z rfl rfl 28 _ HB2.out (by rw [hzs.out]; rfl) (by rw [HZ2.out, hzs.out]) hzc.out ?_))
      refine bodyPost_ret (results_cell_row_tmp rfl _ _ _ _ Z (0, 0) _ rfl (setRow_heap _ _ _ _ _ _ HB2.out) rfl rfl (by rw [hzs.out]; rfl)) rfl ⟨rfl, below_setRow U2.out HG8.out _⟩
  have h2 : i < 0 ∨ n ≤ i := by
    rcases Classical.em (i < 0 ∨ n ≤ i) with h' | h'
    · exact h'
    · unfold climbE at h; rw [if_neg h1, if_neg h'] at h; split at h <;> omega
  have he : climbE n i x ps = 1 := by unfold climbE; rw [if_neg h1, if_pos h2]
  rw [he]
  clear he h
  have d1 : decide (n < 1) = false := by simp; omega
  have d2 : decide (600 < n) = false := by simp; omega
  have d : Hid (decide (i < 0) = true ∨ (decide (i < 0) = false ∧ decide (n ≤ i) = true)) := by
    show _ ∨ _
    rcases Classical.em (i < 0) with h | h
    · left; simpa using h
    · right; simp; omega
  clear h1 h2
  rcases d.out with d3 | ⟨d3, d4⟩
  · clear d
    go_enter Tryd.func17, Tryd.ntmps17
    go_wp2_with (first | (refine wpList_named ?_; intro W1 hW1; refine wpList_allocG rfl 28 35 allocsSum rfl ?_; intro W2 u2 z2 hz2; obtain ⟨Z2, hZ2, hb2⟩ := hz2; (have u1 : Up w W1 := by (rw [hW1]; exact (Up.refl w).alloc _)); (have xb : W1.heap[w.heap.size]? = some (.cells A 38 (0, 0)) := by (rw [hW1]; exact heap_new rfl)); have XB := Lib.hid ((u2.block _ (lt_of_block xb)).trans xb); have U2 := Lib.hid (Up.trans u1 u2); have HZ2 := Lib.hid hZ2; have HB2 := Lib.hid hb2; (have hg8 : w.heap.size ≤ W1.heap.size := by (rw [hW1]; simp)); have HG8 := Lib.hid hg8; clear u2 u1 z2 hZ2 hb2 hW1 xb hg8) | (refine wpList_buildTo rfl 28 #[] rfl (some 28) rfl Z (by simpa [Act.eval] using BZ.out) ?_) | (refine wpList_store_row rfl 28 (.tmp 8) (.tmp 28) rfl _ Z rfl rfl 28 _ HB2.out (by rw [hzs.out]; rfl) (by rw [HZ2.out, hzs.out]) hzc.out ?_))
    refine bodyPost_ret (results_cell_row_tmp rfl _ _ _ _ Z (0, 0) _ rfl (setRow_heap _ _ _ _ _ _ HB2.out) rfl rfl (by rw [hzs.out]; rfl)) rfl ⟨rfl, below_setRow U2.out HG8.out _⟩
  · clear d
    go_enter Tryd.func17, Tryd.ntmps17
    go_wp2_with (first | (refine wpList_named ?_; intro W1 hW1; refine wpList_allocG rfl 28 35 allocsSum rfl ?_; intro W2 u2 z2 hz2; obtain ⟨Z2, hZ2, hb2⟩ := hz2; (have u1 : Up w W1 := by (rw [hW1]; exact (Up.refl w).alloc _)); (have xb : W1.heap[w.heap.size]? = some (.cells A 38 (0, 0)) := by (rw [hW1]; exact heap_new rfl)); have XB := Lib.hid ((u2.block _ (lt_of_block xb)).trans xb); have U2 := Lib.hid (Up.trans u1 u2); have HZ2 := Lib.hid hZ2; have HB2 := Lib.hid hb2; (have hg8 : w.heap.size ≤ W1.heap.size := by (rw [hW1]; simp)); have HG8 := Lib.hid hg8; clear u2 u1 z2 hZ2 hb2 hW1 xb hg8) | (refine wpList_buildTo rfl 28 #[] rfl (some 28) rfl Z (by simpa [Act.eval] using BZ.out) ?_) | (refine wpList_store_row rfl 28 (.tmp 8) (.tmp 28) rfl _ Z rfl rfl 28 _ HB2.out (by rw [hzs.out]; rfl) (by rw [HZ2.out, hzs.out]) hzc.out ?_))
    refine bodyPost_ret (results_cell_row_tmp rfl _ _ _ _ Z (0, 0) _ rfl (setRow_heap _ _ _ _ _ _ HB2.out) rfl rfl (by rw [hzs.out]; rfl)) rfl ⟨rfl, below_setRow U2.out HG8.out _⟩

end Go.Proofs.YtobcfhninchnkaaDoor

namespace Go.Proofs.YtobcfhninchnkaaDoor
open Go Go.RowKit
set_option linter.unusedVariables false
set_option maxRecDepth 100000

theorem climb_fix (n i : Nat) (x : Sh) (ps : List Sm) (hn1 : 1 ≤ n) (hn : n ≤ 600) (hin : i < n) : (badClimb n i x ps = true → climbE n i x ps = 570 ∧ climbS n i x ps = zeroS) ∧ (badClimb n i x ps = false → climbE n i x ps = 0 ∧ climbS n i x ps = climbAt (leafS x) (turnsS n i).reverse ps ps.length) := by
  have e : climbE n i x ps = if badClimb n i x ps then 570 else 0 := by unfold climbE; rw [if_neg (by omega), if_neg (by omega)]
  constructor
  · intro h
    rw [h] at e
    exact ⟨e, by unfold climbS; rw [e]; rfl⟩
  · intro h
    rw [h] at e
    have e' : climbE n i x ps = 0 := e
    exact ⟨e', by unfold climbS; rw [e', if_pos rfl, Int.toNat_natCast, Int.toNat_natCast]⟩
theorem sidesB_get (n i k : Nat) (h : k < (sidesB n i).length) (h2 : k < (turnsS n i).reverse.length) : (sidesB n i)[k] = decide ((turnsS n i).reverse[k].2 ≠ 1) := by simp [sidesB]
theorem take_all_succ {l : List Sm} {k : Nat} (h : k < l.length) (ha : (l.take k).all rightB = true) (hb : rightB l[k] = true) : (l.take (k + 1)).all rightB = true := by
  rw [List.take_succ_eq_append_getElem h, List.all_append, ha]; simp [hb]

set_option maxHeartbeats 8000000 in
theorem rclimb_in (n i : Nat) (x : Sh) (p : Option Addr) (m c : Nat) (ps : List Sm) (w : World) (hm : m = ps.length) (hn1 : 1 ≤ n) (hn : n ≤ 600) (hin : i < n) (hl : ∀ s ∈ ps, s.hash.length = 32) (hrow : RowAt w p 35 smCells ps) (hc : m ≤ c) (hcm : c ≤ maxLen) (htab : Tabs w) :
    Calls Tryd.prog 17 #[.int .i64 n, .int .i64 i, .agg (shCells x), .slice p m c] w fun e w' => e = .returned (.tuple #[.agg (smCells (climbS n i x ps)).toArray, .int .i64 (climbE n i x ps)]) ∧ Up w w' := by
  obtain ⟨hbad, hgood⟩ := climb_fix n i x ps hn1 hn hin
  unfold badClimb at hbad hgood
  rw [Int.toNat_natCast, Int.toNat_natCast] at hbad hgood
  have SD := Lib.hid fun W => rsides_calls n n i W rfl hin (by omega)
  have hzs : Hid ((smCells zeroS).toArray.size = 35) := by show _ = _; simp [smCells, zeroS, u8s]
  have hzc : Hid ((smCells zeroS).toArray.all (·.oneCell') = true) := smCells_all _
  have BZ : Hid (Tryd.prog.built 28 [] = some (smCells zeroS).toArray) := by show _ = _; kernel_rfl
  obtain ⟨Z, hZ⟩ : ∃ Z, Z = (smCells zeroS).toArray := ⟨_, rfl⟩
  rw [← hZ] at hzs hzc BZ
  have HZ := Lib.hid hZ
  clear hZ
  have FN := Lib.hid fun W => rshare_calls x W
  have hA0 : Hid ((shCells x).size = 5) := rfl
  have hAs : Hid ((shCells x).size = 5) := rfl
  have LF : Hid (fineB x = true → ∀ W, Up w W → Calls Tryd.prog 41 #[.agg (shCells x)] W fun e w' => e = .returned (.agg (smCells (leafS x)).toArray) ∧ Up W w') := fun hf W hu => rleaf_calls x (fineB_wf hf).1 W (htab.up hu)
  obtain ⟨A, hA⟩ : ∃ A, A = shCells x := ⟨_, rfl⟩
  rw [← hA] at FN hAs LF ⊢
  obtain ⟨EE, hEE⟩ : ∃ EE, EE = climbE n i x ps := ⟨_, rfl⟩
  obtain ⟨RR, hRR⟩ : ∃ RR, RR = climbS n i x ps := ⟨_, rfl⟩
  rw [← hEE, ← hRR] at hbad hgood ⊢
  obtain ⟨fb, hfb⟩ : ∃ fb, fb = fineB x := ⟨_, rfl⟩
  have HFB := Lib.hid hfb
  rw [← hfb] at hbad hgood FN LF
  obtain ⟨sd, hsd⟩ : ∃ sd, sd = sidesB n i := ⟨_, rfl⟩
  have HSD := Lib.hid hsd
  rw [← hsd] at SD
  obtain ⟨nt, hnt⟩ : ∃ nt, nt = sd.length := ⟨_, rfl⟩
  have hntt : (turnsS n i).length = nt := by rw [hnt, hsd, sidesB_length]
  have hnt7 : nt ≤ 700 := by have := turnsS_length n n i rfl; omega
  rw [hntt, ← hm] at hbad hgood
  have HBAD := Lib.hid hbad
  have HGOOD := Lib.hid hgood
  have HNT := Lib.hid hnt
  have HTT := Lib.hid hntt
  have HM := Lib.hid hm
  have HL := Lib.hid hl
  have HROW := Lib.hid hrow
  have HT := Lib.hid htab
  have d1 : decide (((n : Nat) : Int) < 1) = false := by simp; omega
  have d2 : decide ((600 : Int) < ((n : Nat) : Int)) = false := by simp; omega
  have d3 : decide (((i : Nat) : Int) < 0) = false := by simp
  have d4 : decide (((n : Nat) : Int) ≤ ((i : Nat) : Int)) = false := by simp; omega
  clear hbad hgood hA hEE hRR hfb hsd hnt hntt hm hl hrow htab hA0
  go_enter Tryd.func17, Tryd.ntmps17
  go_wp2_with (first | (refine wpList_named ?_; intro W1 hW1; refine wpList_allocG rfl 28 35 allocsSum rfl ?_; intro W2 u2 z2 hz2; obtain ⟨Z2, hZ2, hb2⟩ := hz2; (have u1 : Up w W1 := by (rw [hW1]; exact (Up.refl w).alloc _)); (have xb : W1.heap[w.heap.size]? = some (.cells A 38 (0, 0)) := by (rw [hW1]; exact heap_new rfl)); have XB := Lib.hid ((u2.block _ (lt_of_block xb)).trans xb); have U2 := Lib.hid (Up.trans u1 u2); have HZ2 := Lib.hid hZ2; have HB2 := Lib.hid hb2; (have hg8 : w.heap.size ≤ W1.heap.size := by (rw [hW1]; simp)); have HG8 := Lib.hid hg8; clear u2 u1 z2 hZ2 hb2 hW1 xb hg8))
  obtain ⟨b8, hb8⟩ : ∃ b, b = W1.heap.size := ⟨_, rfl⟩
  rw [← hb8] at HB2 HG8 ⊢
  clear hb8
  refine (SD.out W2).mono ?_
  rintro e W3 ⟨vs, rfl, o3, u3⟩
  obtain ⟨p3, c3, rfl, h31, h32, -, -⟩ := o3.form (fun x _ => bEnc_len x)
  rw [← HNT.out] at h31 ⊢
  have O3 : Hid (OwnR W3 W2.heap.size 4 1 bEnc (.slice p3 nt c3) sd) := by rw [HNT.out]; exact o3
  have XB3 := Lib.hid ((u3.block _ (lt_of_block XB.out)).trans XB.out)
  have HB3 := Lib.hid ((u3.block _ (lt_of_block HB2.out)).trans HB2.out)
  have U3 : Hid (Up w W3) := Up.trans U2.out u3
  clear o3 u3 XB HB2 SD
  go_wp2_with (first | ((with_reducible show wpList _ _ _ (Oper.mk _ (Op.load _ (Operand.tmp 6)) _ _ _ _ :: _) _ _); refine wpList_load_arr rfl 38 (.tmp 6) rfl w.heap.size 0 rfl A _ (rangeAt_row XB3.out) rfl rfl (by rw [hAs.out]; rfl) ?_))
  refine (FN.out W3).mono ?_
  rintro e W4 ⟨rfl, u4⟩
  have XB4 := Lib.hid ((u4.block _ (lt_of_block XB3.out)).trans XB3.out)
  have HB4 := Lib.hid ((u4.block _ (lt_of_block HB3.out)).trans HB3.out)
  have O4 := Lib.hid (O3.out.up u4)
  have U4 : Hid (Up w W4) := Up.trans U3.out u4
  clear u4 XB3 HB3 O3
  cases fb
  case false =>
    obtain ⟨rfl, rfl⟩ := HBAD.out rfl
    go_wp2_with (first | (refine wpList_buildTo rfl 28 #[] rfl (some 42) rfl Z (by simpa [Act.eval] using BZ.out) ?_) | (refine wpList_store_row rfl 28 (.tmp 8) (.tmp 42) rfl b8 Z rfl rfl 28 _ HB4.out (by rw [hzs.out]; rfl) (by rw [HZ2.out, hzs.out]) hzc.out ?_))
    refine bodyPost_ret (results_cell_row_tmp rfl _ _ _ _ Z (0, 0) _ rfl (setRow_heap _ _ _ _ _ _ HB4.out) rfl rfl (by rw [hzs.out]; rfl)) rfl ⟨by rw [HZ.out] <;> rfl, below_setRow U4.out HG8.out _⟩
  have LF2 := Lib.hid (LF.out rfl)
  clear LF
  by_cases hlen : m = nt
  case neg =>
    obtain ⟨rfl, rfl⟩ := HBAD.out (by simp [hlen])
    have d5 : (((m : Nat) : Int) != ((nt : Nat) : Int)) = true := by rw [bne_iff_ne]; omega
    go_wp2_with (first | (refine wpList_buildTo rfl 28 #[] rfl (some 42) rfl Z (by simpa [Act.eval] using BZ.out) ?_) | (refine wpList_store_row rfl 28 (.tmp 8) (.tmp 42) rfl b8 Z rfl rfl 28 _ HB4.out (by rw [hzs.out]; rfl) (by rw [HZ2.out, hzs.out]) hzc.out ?_))
    refine bodyPost_ret (results_cell_row_tmp rfl _ _ _ _ Z (0, 0) _ rfl (setRow_heap _ _ _ _ _ _ HB4.out) rfl rfl (by rw [hzs.out]; rfl)) rfl ⟨by rw [HZ.out] <;> rfl, below_setRow U4.out HG8.out _⟩
  have d5 : (((m : Nat) : Int) != ((nt : Nat) : Int)) = false := by rw [hlen]; simp
  have HLEN := Lib.hid hlen
  have hm7 : m ≤ 700 := by omega
  have HBAD2 : Hid (ps.all rightB = false → EE = 570 ∧ RR = zeroS) := fun h => HBAD.out (by rw [h]; simp)
  have HGOOD2 : Hid (ps.all rightB = true → EE = 0 ∧ RR = climbAt (leafS x) (turnsS n i).reverse ps m) := fun h => HGOOD.out (by rw [h]; simp [hlen])
  clear HBAD HGOOD hlen
  go_wp2_with fail
  go_loopw [11] (fun v11 wq => ∃ k : Nat, k ≤ m ∧ v11 = .int .i64 k ∧ Hid ((ps.take k).all rightB = true) ∧ Hid (Up W4 wq)) (fun v11 _ => m - (intOf v11).toNat)
  case atStart => exact ⟨0, by omega, rfl, rfl, Up.refl _⟩
  case round =>
    obtain ⟨k, hk, rfl, HA, HU⟩ := hrel
    by_cases hlt : k < m
    case pos =>
      have hkl : k < ps.length := by rw [← HM.out]; exact hlt
      obtain ⟨bp, op, rfl, hpr⟩ := HROW.out (by rintro rfl; simp at hkl)
      have hx := HL.out _ (List.getElem_mem hkl)
      have g := rangeAt_up (hpr k hkl) (Up.trans U4.out HU.out)
      have hsucc := fun hb => take_all_succ hkl HA.out hb
      have hfail : rightB ps[k] = false → ps.all rightB = false := fun h => by
        rcases Bool.eq_false_or_eq_true (ps.all rightB) with h2 | h2
        · rw [List.all_eq_true.1 h2 _ (List.getElem_mem hkl)] at h; cases h
        · exact h2
      obtain ⟨y, hy⟩ : ∃ y, y = ps[k] := ⟨_, rfl⟩
      rw [← hy] at hx g hsucc hfail
      have RT := Lib.hid fun W => rright_calls y hx W
      have Ys : Hid ((smCells y).toArray.size = 35) := by have := smCells_len hx; show _ = _; simpa using this
      have G := Lib.hid (show wr.rangeAt bp (op + k * 35) (smCells y).toArray.toList from g)
      obtain ⟨Y, hY⟩ : ∃ Y, Y = (smCells y).toArray := ⟨_, rfl⟩
      rw [← hY] at RT Ys G
      obtain ⟨bb, hbb⟩ : ∃ bb, bb = rightB y := ⟨_, rfl⟩
      rw [← hbb] at RT hsucc hfail
      have HSUC := Lib.hid hsucc
      have HFAIL := Lib.hid hfail
      clear hY hbb hy g hx hpr hsucc hfail
      go_wp2_with ((with_reducible show wpList _ _ _ (Oper.mk _ (Op.load _ (Operand.tmp 51)) _ _ _ _ :: _) _ _); refine wpList_load_arr rfl 28 (.tmp 51) rfl bp (op + k * 35) rfl Y _ G.out rfl rfl (by rw [Ys.out]; rfl) ?_)
      refine (RT.out wr).mono ?_
      rintro e w7 ⟨rfl, u7⟩
      have U7 : Hid (Up W4 w7) := Up.trans HU.out u7
      clear u7
      cases bb
      case false =>
        obtain ⟨rfl, rfl⟩ := HBAD2.out (HFAIL.out rfl)
        have B7 := Lib.hid ((U7.out.block _ (lt_of_block HB4.out)).trans HB4.out)
        have V7 : Hid (Up w w7) := Up.trans U4.out U7.out
        go_wp2_with (first | (refine wpList_buildTo rfl 28 #[] rfl (some 55) rfl Z (by simpa [Act.eval] using BZ.out) ?_) | (refine wpList_store_row rfl 28 (.tmp 8) (.tmp 55) rfl b8 Z rfl rfl 28 _ B7.out (by rw [hzs.out]; rfl) (by rw [HZ2.out, hzs.out]) hzc.out ?_))
        refine bodyPost_ret (results_cell_row_tmp rfl _ _ _ _ Z (0, 0) _ rfl (setRow_heap _ _ _ _ _ _ B7.out) rfl rfl (by rw [hzs.out]; rfl)) rfl ⟨by rw [HZ.out] <;> rfl, below_setRow V7.out HG8.out _⟩
      have HA2 := Lib.hid (HSUC.out rfl)
      clear HSUC HFAIL RT
      go_wp2_with fail
      exact ⟨⟨k + 1, by omega, by go_num, HA2, U7⟩, by simp [intOf]; omega⟩
    have hkm : k = m := by omega
    have hall : ps.all rightB = true := by
      have := HA.out
      rw [hkm, HM.out, List.take_of_length_le (Nat.le_refl _)] at this
      exact this
    obtain ⟨rfl, hRG⟩ := HGOOD2.out hall
    have HRG := Lib.hid hRG
    have HALL := Lib.hid hall
    subst hkm
    obtain ⟨W5, hW5⟩ : ∃ W5, W5 = wr := ⟨_, rfl⟩
    subst hW5
    have XB5 := Lib.hid ((HU.out.block _ (lt_of_block XB4.out)).trans XB4.out)
    have HB5 := Lib.hid ((HU.out.block _ (lt_of_block HB4.out)).trans HB4.out)
    have O5 := Lib.hid (O4.out.up HU.out)
    have U5 : Hid (Up w W5) := Up.trans U4.out HU.out
    have d6 : decide (((k : Nat) : Int) < ((k : Nat) : Int)) = false := by simp
    have hls := (leafS_le (x := x) (by rw [← HFB.out])).hash
    have Ls : Hid ((smCells (leafS x)).toArray.size = 35) := by have := smCells_len hls; show _ = _; simpa using this
    have Lc : Hid ((smCells (leafS x)).toArray.all (·.oneCell') = true) := smCells_all _
    obtain ⟨L, hL⟩ : ∃ L, L = (smCells (leafS x)).toArray := ⟨_, rfl⟩
    rw [← hL] at LF2 Ls Lc
    have HLE := Lib.hid hL
    clear hRG hall HBAD2 HGOOD2 HA O4 XB4 HB4 HU hL hls
    go_wp2_with (first | ((with_reducible show wpList _ _ _ (Oper.mk _ (Op.load _ (Operand.tmp 6)) _ _ _ _ :: _) _ _); refine wpList_load_arr rfl 38 (.tmp 6) rfl w.heap.size 0 rfl A _ (rangeAt_row XB5.out) rfl rfl (by rw [hAs.out]; rfl) ?_))
    refine (LF2.out W5 U5.out).mono ?_
    rintro e W6 ⟨rfl, u6⟩
    have HB6 := Lib.hid ((u6.block _ (lt_of_block HB5.out)).trans HB5.out)
    have O6 := Lib.hid (O5.out.up u6)
    have U6 : Hid (Up w W6) := Up.trans U5.out u6
    clear u6 HB5 O5 XB5 U5
    go_wp2_with (first | (refine wpList_allocG rfl 28 35 allocsSum rfl ?_; intro W7 u7 z7 hz7; obtain ⟨Z7, hZ7, hb7⟩ := hz7; have U7 := Lib.hid u7; have HZ7 := Lib.hid hZ7; have HB7 := Lib.hid hb7; clear u7 z7 hZ7 hb7) | (refine wpList_store_row rfl 28 (.tmp 12) (.tmp 57) rfl _ L rfl rfl 28 _ HB7.out (by rw [Ls.out]; rfl) (by rw [HZ7.out, Ls.out]) Lc.out ?_; refine wpList_named ?_; intro W8 hW8; (have u8 : Up W6 W8 := setRow_upN hW8 U7.out (Nat.le_refl _)); (have p8 := setRow_named hW8 HB7.out); have P8 := Lib.hid p8; have U8 := Lib.hid u8; clear p8 u8 hW8))
    obtain ⟨b12, hb12⟩ : ∃ b, b = W6.heap.size := ⟨_, rfl⟩
    rw [← hb12] at P8 ⊢
    have H12 := Lib.hid hb12
    clear hb12 HB7
    go_loopw [13] (fun v13 wq => ∃ r : Nat, r ≤ k ∧ v13 = .int .i64 r ∧ Hid (wq.heap[b12]? = some (.cells (smCells (climbAt (leafS x) (turnsS n i).reverse ps r)).toArray 28 (0, 0))) ∧ Hid (Up W6 wq) ∧ Hid ((climbAt (leafS x) (turnsS n i).reverse ps r).le ((r + 1 : Nat) * 1125899906842624))) (fun v13 _ => k - (intOf v13).toNat)
    case atStart => exact ⟨0, by omega, rfl, by rw [climbAt_zero, ← HLE.out]; exact P8.out, U8.out, by rw [climbAt_zero]; exact (leafS_le (by rw [← HFB.out])).mono (by omega)⟩
    case round =>
      obtain ⟨r, hr, rfl, HX, HV, HLe⟩ := hrel
      by_cases hrk : r < k
      case neg =>
        have e : r = k := by omega
        subst e
        have hX := HX.out
        have hfin := HLe.out.hash
        rw [← HRG.out] at hX hfin
        have Rs : Hid ((smCells RR).toArray.size = 35) := by have := smCells_len hfin; show _ = _; simpa using this
        have Rc : Hid ((smCells RR).toArray.all (·.oneCell') = true) := smCells_all _
        obtain ⟨R, hR⟩ : ∃ R, R = (smCells RR).toArray := ⟨_, rfl⟩
        rw [← hR] at hX Rs Rc
        have HRE := Lib.hid hR
        have X9 := Lib.hid hX
        have B9 := Lib.hid ((HV.out.block _ (lt_of_block HB6.out)).trans HB6.out)
        have U9 : Hid (Up w wr) := Up.trans U6.out HV.out
        clear hX hfin hR HX HLe
        go_wp2_with (first | ((with_reducible show wpList _ _ _ (Oper.mk _ (Op.load _ (Operand.tmp 12)) _ _ _ _ :: _) _ _); refine wpList_load_arr rfl 28 (.tmp 12) rfl b12 0 rfl R _ (rangeAt_row X9.out) rfl rfl (by rw [Rs.out]; rfl) ?_) | (refine wpList_store_row rfl 28 (.tmp 8) (.tmp 80) rfl b8 R rfl rfl 28 _ B9.out (by rw [Rs.out]; rfl) (by rw [HZ2.out, Rs.out]) Rc.out ?_))
        refine bodyPost_ret (results_cell_row_tmp rfl _ _ _ _ R (0, 0) _ rfl (setRow_heap _ _ _ _ _ _ B9.out) rfl rfl (by rw [Rs.out]; rfl)) rfl ⟨by rw [HRE.out] <;> rfl, below_setRow U9.out HG8.out _⟩
      -- the round
      have hrl : r < ps.length := by rw [← HM.out]; exact hrk
      obtain ⟨bp, op, rfl, hpr⟩ := HROW.out (by rintro rfl; simp at hrl)
      have hyh := HL.out _ (List.getElem_mem hrl)
      have hyr := List.all_eq_true.1 HALL.out _ (List.getElem_mem hrl)
      have g := rangeAt_up (hpr r hrl) (Up.trans U6.out HV.out)
      have hrs : r < sd.length := by rw [← HNT.out, ← HLEN.out]; exact hrk
      have hrt : r < (turnsS n i).reverse.length := by rw [List.length_reverse, HTT.out, ← HLEN.out]; exact hrk
      have hOr := O6.out.up HV.out
      obtain ⟨gs, cs', cur, hv, q1, q2, q3, q4, q5, q6⟩ := hOr.form2 (by rintro rfl; simp at hrs)
      injection hv with hv1 hv2 hv3
      rw [hv1] at hOr
      have hsq := hOr.at' (fun y _ => bEnc_len y) r hrs 0 _ rfl
      have hsv : sd[r] = decide ((turnsS n i).reverse[r].2 ≠ 1) := by
        have hh := HSD.out
        subst hh
        exact sidesB_get n i r hrs hrt
      rw [hsv] at hsq
      simp only [Nat.mul_one, Nat.zero_add, Nat.add_zero] at hsq
      have hsuc := climbAt_succ (leafS x) (turnsS n i).reverse ps r hrt hrl
      obtain ⟨t, ht⟩ : ∃ t, t = (turnsS n i).reverse[r] := ⟨_, rfl⟩
      obtain ⟨y, hy⟩ : ∃ y, y = ps[r] := ⟨_, rfl⟩
      obtain ⟨s, hs⟩ : ∃ s, s = climbAt (leafS x) (turnsS n i).reverse ps r := ⟨_, rfl⟩
      rw [← ht, ← hy, ← hs] at hsuc
      rw [← ht] at hsq
      rw [← hy] at hyh hyr g
      have hsl := HLe.out
      rw [← hs] at hsl HX
      have hyl := rightB_le hyh hyr
      have hle := upSum_le (t := t) hyl hsl
      have HLE2 : Hid ((climbAt (leafS x) (turnsS n i).reverse ps (r + 1)).le ((r + 1 + 1 : Nat) * 1125899906842624)) := by rw [hsuc]; exact hle.mono (by omega)
      have hsok : s.ok := hsl.ok (by omega)
      have hyok : y.ok := hyl.ok (by omega)
      have hul : (upSum t y s).hash.length = 32 := Sha.sum_length _
      have Ys : Hid ((smCells y).toArray.size = 35) := by have := smCells_len hyh; show _ = _; simpa using this
      have Ss : Hid ((smCells s).toArray.size = 35) := by have := smCells_len hsok.hash; show _ = _; simpa using this
      have Ns : Hid ((smCells (upSum t y s)).toArray.size = 35) := by have := smCells_len hul; show _ = _; simpa using this
      have Nc : Hid ((smCells (upSum t y s)).toArray.all (·.oneCell') = true) := smCells_all _
      have ND1 : Hid (t.2 = 1 → ∀ W, Up w W → Calls Tryd.prog 42 #[.agg (smCells s).toArray, .agg (smCells y).toArray] W fun e w' => e = .returned (.agg (smCells (upSum t y s)).toArray) ∧ Up W w') := fun h W hu => by
        have : upSum t y s = nodeS s y := by unfold upSum sideA sideB; rw [if_pos h, if_pos h]
        rw [this]; exact rnode_calls s y hsok hyok W (HT.out.up hu)
      have ND2 : Hid (¬ t.2 = 1 → ∀ W, Up w W → Calls Tryd.prog 42 #[.agg (smCells y).toArray, .agg (smCells s).toArray] W fun e w' => e = .returned (.agg (smCells (upSum t y s)).toArray) ∧ Up W w') := fun h W hu => by
        have : upSum t y s = nodeS y s := by unfold upSum sideA sideB; rw [if_neg h, if_neg h]
        rw [this]; exact rnode_calls y s hyok hsok W (HT.out.up hu)
      have G := Lib.hid (show wr.rangeAt bp (op + r * 35) (smCells y).toArray.toList from g)
      obtain ⟨Y, hY⟩ : ∃ Y, Y = (smCells y).toArray := ⟨_, rfl⟩
      obtain ⟨S, hS⟩ : ∃ S, S = (smCells s).toArray := ⟨_, rfl⟩
      obtain ⟨N, hN⟩ : ∃ N, N = (smCells (upSum t y s)).toArray := ⟨_, rfl⟩
      rw [← hY] at Ys ND1 ND2 G
      rw [← hS] at Ss ND1 ND2 HX
      rw [← hN] at Ns Nc ND1 ND2
      have HNX : Hid ((smCells (climbAt (leafS x) (turnsS n i).reverse ps (r + 1))).toArray = N) := by show _ = _; rw [hsuc, hN]
      have HSQ := Lib.hid hsq
      have UW : Hid (Up w wr) := Up.trans U6.out HV.out
      haveI := UpW.some_ wr.drew
      have hz := Lib.hid fun (z : UpW wr.drew) => (Up.trans (Up.refl wr).drew z.up : Up wr z.w)
      clear hsq hsv hY hS hN hsok hyok hul hle hyl hsl hsuc hs hy ht hyh hyr g hpr hOr q1 q2 q3 q4 q5 q6 hrs hrt HLe hv2 hv3 hrl
      subst hv1
      by_cases htt : t.2 = 1
      case pos =>
        have NDD := Lib.hid (ND1.out htt)
        have hb : decide (t.2 ≠ 1) = false := by simp [htt]
        have HSQ2 := HSQ.out
        rw [hb] at HSQ2
        have hrn : r < nt := by rw [← HLEN.out]; exact hrk
        clear hb HSQ htt ND1 ND2
        go_wp2_with fail
        clear HSQ2
        refine wp_region_up_tail 6 (by kernel_rfl) (by kernel_rfl) ?_
        simp only [List.take_succ_cons, List.take_zero, List.drop_succ_cons, List.drop_zero]
        repeat (first | ((with_reducible show wpQuiet _ _ _ _ (Oper.mk _ (Op.load _ (Operand.tmp 77)) _ _ _ _ :: _) _); refine wpQuiet_load_arr (by rfl) 28 (.tmp 77) rfl bp (op + r * 35) rfl Y _ (fun w' hw' => by (obtain ⟨z, rfl⟩ := hw'; exact rangeAt_up G.out (hz.out z))) rfl rfl (by rw [Ys.out]; rfl) ?_) | ((with_reducible show wpQuiet _ _ _ _ (Oper.mk _ (Op.load _ (Operand.tmp 12)) _ _ _ _ :: _) _); refine wpQuiet_load_arr (by rfl) 28 (.tmp 12) rfl b12 0 rfl S _ (fun w' hw' => by (obtain ⟨z, rfl⟩ := hw'; exact rangeAt_row (((hz.out z).block _ (lt_of_block HX.out)).trans HX.out))) rfl rfl (by rw [Ss.out]; rfl) ?_) | ((with_reducible show wpQuiet _ _ _ _ (Oper.mk (some 79) _ _ _ _ _ :: _) _); with_reducible refine wpQuiet_step (fun K hK => ?_); go_simp; apply Exists.intro; refine ⟨fun _ => ?_, hK _ ?_⟩; (go_at_call 42; with_reducible exact Calls.quiet_up (NDD.out _ (Up.trans UW.out (hz.out _)))); clear hK K) | (with_reducible refine wpQuiet_step (fun K hK => ?_); go_simp; with_reducible refine hK _ ?_; clear hK K))
        refine wpQuiet_nil ?_
        rintro w9 ⟨z, hz9⟩
        have u9 : Up wr w9 := by rw [hz9]; exact hz.out z
        have X9 := Lib.hid ((u9.block _ (lt_of_block HX.out)).trans HX.out)
        have V9 : Hid (Up W6 w9) := Up.trans HV.out u9
        clear hz9 u9 hz NDD
        go_wp2_with (refine wpList_store_row rfl 28 (.tmp 12) (.tmp 79) rfl b12 N rfl rfl 28 _ X9.out (by rw [Ns.out]; rfl) (by rw [Ss.out, Ns.out]) Nc.out ?_; refine wpList_named ?_; intro W10 hW10; have u10 := setRow_upN hW10 V9.out (Nat.le_of_eq H12.out.symm); have x10 := setRow_named hW10 X9.out; rw [← HNX.out] at x10; have X10 := Lib.hid x10; have U10 := Lib.hid u10; clear hW10 u10 x10)
        exact ⟨⟨r + 1, by omega, by go_num, X10, U10, HLE2⟩, by simp [intOf]; omega⟩
      case neg =>
        have NDD := Lib.hid (ND2.out htt)
        have hb : decide (t.2 ≠ 1) = true := by simp [htt]
        have HSQ2 := HSQ.out
        rw [hb] at HSQ2
        have hrn : r < nt := by rw [← HLEN.out]; exact hrk
        clear hb HSQ htt ND1 ND2
        go_wp2_with fail
        clear HSQ2
        refine wp_region_up_tail 6 (by kernel_rfl) (by kernel_rfl) ?_
        simp only [List.take_succ_cons, List.take_zero, List.drop_succ_cons, List.drop_zero]
        repeat (first | ((with_reducible show wpQuiet _ _ _ _ (Oper.mk _ (Op.load _ (Operand.tmp 70)) _ _ _ _ :: _) _); refine wpQuiet_load_arr (by rfl) 28 (.tmp 70) rfl bp (op + r * 35) rfl Y _ (fun w' hw' => by (obtain ⟨z, rfl⟩ := hw'; exact rangeAt_up G.out (hz.out z))) rfl rfl (by rw [Ys.out]; rfl) ?_) | ((with_reducible show wpQuiet _ _ _ _ (Oper.mk _ (Op.load _ (Operand.tmp 12)) _ _ _ _ :: _) _); refine wpQuiet_load_arr (by rfl) 28 (.tmp 12) rfl b12 0 rfl S _ (fun w' hw' => by (obtain ⟨z, rfl⟩ := hw'; exact rangeAt_row (((hz.out z).block _ (lt_of_block HX.out)).trans HX.out))) rfl rfl (by rw [Ss.out]; rfl) ?_) | ((with_reducible show wpQuiet _ _ _ _ (Oper.mk (some 73) _ _ _ _ _ :: _) _); with_reducible refine wpQuiet_step (fun K hK => ?_); go_simp; apply Exists.intro; refine ⟨fun _ => ?_, hK _ ?_⟩; (go_at_call 42; with_reducible exact Calls.quiet_up (NDD.out _ (Up.trans UW.out (hz.out _)))); clear hK K) | (with_reducible refine wpQuiet_step (fun K hK => ?_); go_simp; with_reducible refine hK _ ?_; clear hK K))
        refine wpQuiet_nil ?_
        rintro w9 ⟨z, hz9⟩
        have u9 : Up wr w9 := by rw [hz9]; exact hz.out z
        have X9 := Lib.hid ((u9.block _ (lt_of_block HX.out)).trans HX.out)
        have V9 : Hid (Up W6 w9) := Up.trans HV.out u9
        clear hz9 u9 hz NDD
        go_wp2_with (refine wpList_store_row rfl 28 (.tmp 12) (.tmp 73) rfl b12 N rfl rfl 28 _ X9.out (by rw [Ns.out]; rfl) (by rw [Ss.out, Ns.out]) Nc.out ?_; refine wpList_named ?_; intro W10 hW10; have u10 := setRow_upN hW10 V9.out (Nat.le_of_eq H12.out.symm); have x10 := setRow_named hW10 X9.out; rw [← HNX.out] at x10; have X10 := Lib.hid x10; have U10 := Lib.hid u10; clear hW10 u10 x10)
        exact ⟨⟨r + 1, by omega, by go_num, X10, U10, HLE2⟩, by simp [intOf]; omega⟩

theorem rclimb_calls (n i : Int) (x : Sh) (p : Option Addr) (m c : Nat) (ps : List Sm) (w : World) (hm : m = ps.length) (hl : ∀ s ∈ ps, s.hash.length = 32) (hrow : RowAt w p 35 smCells ps) (hc : m ≤ c) (hcm : c ≤ maxLen) (htab : Tabs w) :
    Calls Tryd.prog 17 #[.int .i64 n, .int .i64 i, .agg (shCells x), .slice p m c] w fun e w' => e = .returned (.tuple #[.agg (smCells (climbS n i x ps)).toArray, .int .i64 (climbE n i x ps)]) ∧ Up w w' := by
  by_cases h1 : n < 1 ∨ 600 < n
  · exact rclimb_range n i x p m c ps w (.inl (by unfold climbE; rw [if_pos h1]))
  by_cases h2 : i < 0 ∨ n ≤ i
  · exact rclimb_range n i x p m c ps w (.inr (by unfold climbE; rw [if_neg h1, if_pos h2]))
  obtain ⟨N, rfl⟩ : ∃ N : Nat, n = N := ⟨n.toNat, by omega⟩
  obtain ⟨I, rfl⟩ : ∃ I : Nat, i = I := ⟨i.toNat, by omega⟩
  exact rclimb_in N I x p m c ps w hm (by omega) (by omega) (by omega) hl hrow hc hcm htab

end Go.Proofs.YtobcfhninchnkaaDoor

namespace Go.Proofs.YtobcfhninchnkaaDoor
open Go Go.RowKit
set_option linter.unusedVariables false
set_option maxRecDepth 100000

set_option maxHeartbeats 1000000 in
theorem rcheckS_calls (root : Sm) (n i : Int) (x : Sh) (p : Option Addr) (m c : Nat) (ps : List Sm) (w : World) (hr : root.hash.length = 32) (hm : m = ps.length) (hl : ∀ s ∈ ps, s.hash.length = 32) (hrow : RowAt w p 35 smCells ps) (hc : m ≤ c) (hcm : c ≤ maxLen) (htab : Tabs w) :
    Calls Tryd.prog 18 #[.agg (smCells root).toArray, .int .i64 n, .int .i64 i, .agg (shCells x), .slice p m c] w fun e w' => e = .returned (.bool (checkB root n i x ps)) ∧ Up w w' := by
  have CL := Lib.hid fun W (hu : Up w W) => rclimb_calls n i x p m c ps W hm hl (hrow.up hu) hc hcm (htab.up hu)
  have hcs := climbS_hash n i x ps
  unfold checkB
  obtain ⟨S, hS⟩ : ∃ S, S = climbS n i x ps := ⟨_, rfl⟩
  obtain ⟨ee, hee⟩ : ∃ ee, ee = climbE n i x ps := ⟨_, rfl⟩
  rw [← hS, ← hee] at CL
  rw [← hS] at hcs
  rw [← hS, ← hee]
  have EQ := fun W => run_eql_sum S root W hcs hr
  have hAs : Hid ((shCells x).size = 5) := by show _ = _; rfl
  have hDs : Hid ((smCells S).toArray.size = 35) := by have := smCells_len hcs; show _ = _; simpa using this
  have hDc : Hid ((smCells S).toArray.all (·.oneCell') = true) := smCells_all _
  have hRs : Hid ((smCells root).toArray.size = 35) := by have := smCells_len hr; show _ = _; simpa using this
  obtain ⟨bb, hbb⟩ : ∃ bb, bb = decide (S = root) := ⟨_, rfl⟩
  rw [← hbb] at EQ ⊢
  obtain ⟨A, hA⟩ : ∃ A, A = shCells x := ⟨_, rfl⟩
  obtain ⟨D, hD⟩ : ∃ D, D = (smCells S).toArray := ⟨_, rfl⟩
  obtain ⟨R, hR⟩ : ∃ R, R = (smCells root).toArray := ⟨_, rfl⟩
  rw [← hA] at CL hAs ⊢
  rw [← hD] at CL EQ hDs hDc
  rw [← hR] at EQ hRs ⊢
  clear hA hD hR hbb hS hee hcs hl hrow hm hr
  go_enter Tryd.func18, Tryd.ntmps18
  go_wp2_with (first | ((with_reducible show wpList _ _ _ (Oper.mk _ (Op.load _ (Operand.tmp 8)) _ _ _ _ :: _) _ _); refine wpList_named ?_; intro W1 hW1; (have u1 : Up w W1 := by (rw [hW1]; exact ((Up.refl w).alloc _).alloc _)); (have xr : W1.heap[w.heap.size]? = some (.cells R 28 (0, 0)) := by (rw [hW1, heap_old (by simp), heap_new rfl])); (have xa : W1.heap[w.heap.size + 1]? = some (.cells A 38 (0, 0)) := by (rw [hW1]; exact heap_new (by simp))); have U1 := Lib.hid u1; have XR := Lib.hid xr; have XA := Lib.hid xa; clear u1 xr xa hW1; refine wpList_load_arr rfl 38 (.tmp 8) rfl (w.heap.size + 1) 0 rfl A _ (rangeAt_row XA.out) rfl rfl (by rw [hAs.out]; rfl) ?_))
  refine (CL.out W1 U1.out).mono ?_
  rintro e W2 ⟨rfl, u2⟩
  have U2 : Hid (Up w W2) := Up.trans U1.out u2
  have XR2 := Lib.hid ((u2.block _ (lt_of_block XR.out)).trans XR.out)
  clear u2
  by_cases h0 : ee = 0
  case neg =>
    have d0 : (ee == 0) = false := by rw [beq_eq_false_iff_ne]; exact h0
    have hv : Hid ((decide (ee = 0) && bb) = false) := by show _ = _; simp [h0]
    clear h0 EQ
    go_wp2_with (first | (refine wpList_allocG rfl 28 35 allocsSum rfl ?_; intro W3 u3 z3 hz3; obtain ⟨Z3, hZ3, hb3⟩ := hz3; have V3 := Lib.hid u3; have HZ3 := Lib.hid hZ3; have HB3 := Lib.hid hb3; clear u3 z3 hZ3 hb3) | (refine wpList_store_row rfl 28 (.tmp 11) (.tmp 19) rfl _ D rfl rfl 28 _ HB3.out (by rw [hDs.out]; rfl) (by rw [HZ3.out, hDs.out]) hDc.out ?_; refine wpList_named ?_; intro W4 hW4; (have u4 : Up W2 W4 := setRow_upN hW4 V3.out (Nat.le_refl _)); (have p4 := setRow_named hW4 HB3.out); have XR4 := Lib.hid ((u4.block _ (lt_of_block XR2.out)).trans XR2.out); have P4 := Lib.hid p4; (have U4 : Hid (Up w W4) := Up.trans U2.out u4); clear u4 p4 hW4))
    go_ret
    exact ⟨by rw [hv.out] <;> rfl, U4.out⟩
  subst h0
  go_wp2_with (first | (refine wpList_allocG rfl 28 35 allocsSum rfl ?_; intro W3 u3 z3 hz3; obtain ⟨Z3, hZ3, hb3⟩ := hz3; have V3 := Lib.hid u3; have HZ3 := Lib.hid hZ3; have HB3 := Lib.hid hb3; clear u3 z3 hZ3 hb3) | (refine wpList_store_row rfl 28 (.tmp 11) (.tmp 19) rfl _ D rfl rfl 28 _ HB3.out (by rw [hDs.out]; rfl) (by rw [HZ3.out, hDs.out]) hDc.out ?_; refine wpList_named ?_; intro W4 hW4; (have u4 : Up W2 W4 := setRow_upN hW4 V3.out (Nat.le_refl _)); (have p4 := setRow_named hW4 HB3.out); have XR4 := Lib.hid ((u4.block _ (lt_of_block XR2.out)).trans XR2.out); have P4 := Lib.hid p4; (have U4 : Hid (Up w W4) := Up.trans U2.out u4); clear u4 p4 hW4) | ((with_reducible show wpList _ _ _ (Oper.mk _ (Op.load _ (Operand.tmp 11)) _ _ _ _ :: _) _ _); refine wpList_load_arrG (by rfl) 28 (.tmp 11) rfl _ 0 rfl D _ (rangeAt_row P4.out) rfl rfl (by rw [hDs.out]; rfl) ?_) | ((with_reducible show wpList _ _ _ (Oper.mk _ (Op.load _ (Operand.tmp 5)) _ _ _ _ :: _) _ _); refine wpList_load_arrG (by rfl) 28 (.tmp 5) rfl _ 0 rfl R _ (rangeAt_row XR4.out) rfl rfl (by rw [hRs.out]; rfl) ?_))
  go_ret
  exact ⟨rfl, U4.out⟩


/-! ### rows of texts -/
def vEnc (v : Value) : List Value := [v]
theorem vEnc_len (v : Value) : (vEnc v).length = 1 := rfl
theorem eltTxt : EltT Tryd.prog 74 45 1 24 := ⟨rfl, _, _, rfl, rfl, by kernel_rfl, by kernel_rfl, by kernel_rfl⟩
theorem txt_type : 45 ≠ 5 := by decide
theorem sum_type : 28 ≠ 5 := by decide
theorem sum_txt : 28 ≠ 45 := by decide
/-- a block of bytes -/
def IsB (W : World) (g : Nat) : Prop := ∃ cur, W.heap[g]? = some (.cells cur 5 (0, 0))
theorem Own.isB {W : World} {base : Nat} {v : Value} {l : List UInt8} (h : Own W base v l) : ∀ g, v.ownBlock = some g → IsB W g := by
  intro g hg
  rcases h.2 with ⟨rfl, hn⟩ | ⟨g', cap, cur, rfl, hbg, hg', h2⟩
  · cases hg
  · injection hg with hg; subst hg; exact ⟨cur, hg'⟩
theorem Own.one {W : World} {base : Nat} {v : Value} {l : List UInt8} (h : Own W base v l) : v.oneCell' = true := by
  rcases h.2 with ⟨rfl, hn⟩ | ⟨g', cap, cur, rfl, hbg, hg', h2⟩ <;> rfl
theorem Own.kept {W W' : World} {base : Nat} {v : Value} {l : List UInt8} (h : Own W base v l) (hk : ∀ g, v.ownBlock = some g → W'.heap[g]? = W.heap[g]?) : Own W' base v l := by
  refine ⟨h.1, ?_⟩
  rcases h.2 with h | ⟨g, cap, cur, rfl, hbg, hg, h2⟩
  · exact .inl h
  · exact .inr ⟨g, cap, cur, rfl, hbg, (hk g rfl).trans hg, h2⟩
/-- the values of a row of slices hold these texts -/
def TX (W : World) (vs : List Value) (ts : List (List UInt8)) : Prop := vs.length = ts.length ∧ ∀ j (h : j < vs.length) (h2 : j < ts.length), Own W 0 vs[j] ts[j]
theorem TX.nil (W : World) : TX W [] [] := ⟨rfl, fun j h => by simp at h⟩
theorem TX.snoc {W : World} {vs : List Value} {ts : List (List UInt8)} {v : Value} {t : List UInt8} (h : TX W vs ts) (ho : Own W 0 v t) : TX W (vs ++ [v]) (ts ++ [t]) := by
  refine ⟨by simp [h.1], fun j h1 h2 => ?_⟩
  by_cases hj : j < vs.length
  · rw [List.getElem_append_left hj, List.getElem_append_left (by rw [← h.1]; exact hj)]
    exact h.2 j hj _
  · have e : j = vs.length := by simp at h1; omega
    subst e
    have e2 : vs.length = ts.length := h.1
    rw [List.getElem_append_right (Nat.le_refl _), List.getElem_append_right (by omega)]
    simpa [e2] using ho
theorem TX.kept {W W' : World} {vs : List Value} {ts : List (List UInt8)} (h : TX W vs ts) (hk : ∀ g, IsB W g → W'.heap[g]? = W.heap[g]?) : TX W' vs ts :=
  ⟨h.1, fun j h1 h2 => (h.2 j h1 h2).kept fun g hg => hk g ((h.2 j h1 h2).isB g hg)⟩
theorem IsB.lt {W : World} {g : Nat} (h : IsB W g) : g < W.heap.size := by obtain ⟨c, h⟩ := h; exact lt_of_block h
theorem TX.up {W W' : World} {vs : List Value} {ts : List (List UInt8)} (h : TX W vs ts) (hu : Up W W') : TX W' vs ts := h.kept fun g hg => hu.block g hg.lt
theorem TX.one {W : World} {vs : List Value} {ts : List (List UInt8)} (h : TX W vs ts) : ∀ v ∈ vs, v.oneCell' = true := fun v hv => by
  obtain ⟨j, hj, rfl⟩ := List.mem_iff_getElem.1 hv
  exact (h.2 j hj (by rw [← h.1]; exact hj)).one
/-- a block that is no row of bytes is written: texts stay -/
theorem TX.set {W : World} {vs : List Value} {ts : List (List UInt8)} (h : TX W vs ts) {b : Nat} {cur D : Array Value} {t : TypeId} {fr : Nat × Nat} (hb : W.heap[b]? = some (.cells cur t fr)) (ht : t ≠ 5) : TX (W.setRow b D) vs ts :=
  h.kept fun g ⟨c, hg⟩ => setRow_other _ _ _ _ fun e => by subst e; rw [hb] at hg; injection hg with hg; injection hg with h1 h2; exact ht h2
theorem OwnR.isR {W : World} {base : Nat} {E : TypeId} {k : Nat} {α : Type} {enc : α → List Value} {v : Value} {l : List α} (h : OwnR W base E k enc v l) : ∀ g, v.ownBlock = some g → ∃ cur, W.heap[g]? = some (.cells cur E (0, 0)) := by
  intro g hg
  rcases h.2 with ⟨rfl, hn⟩ | ⟨g', cap, cur, rfl, hbg, hg', h2⟩
  · cases hg
  · injection hg with hg; subst hg; exact ⟨cur, hg'⟩
theorem TX.grow {W W' : World} {vs : List Value} {ts : List (List UInt8)} {base : Nat} {v v' : Value} {l : List Value} (h : TX W vs ts) (ho : OwnR W base 45 1 vEnc v l) (hg : Grow W W' v v') : TX W' vs ts :=
  h.kept fun g hb => hg.block hb.lt fun e => by
    obtain ⟨c, hc⟩ := hb
    obtain ⟨c2, hc2⟩ := ho.isR g e
    rw [hc2] at hc
    injection hc with hc
    injection hc with h1 h2
    exact txt_type h2
theorem Own.grow {W W' : World} {base base' : Nat} {v v' u : Value} {l : List Value} {t : List UInt8} (h : Own W base' u t) (ho : OwnR W base 45 1 vEnc v l) (hg : Grow W W' v v') : Own W' base' u t :=
  h.kept fun g hb => hg.block (h.isB g hb).lt fun e => by
    obtain ⟨c, hc⟩ := h.isB g hb
    obtain ⟨c2, hc2⟩ := ho.isR g e
    rw [hc2] at hc
    injection hc with hc
    injection hc with h1 h2
    exact txt_type h2
/-- the texts of a way, the first r+1 of them -/
def txS (x : Sh) (ts : List (Nat × Nat)) (ps : List Sm) : List (List UInt8) := (wayS x ts ps).map (·.1)
theorem txS_length (x : Sh) (ts : List (Nat × Nat)) (ps : List Sm) (h : ts.length = ps.length) : (txS x ts ps).length = ps.length + 1 := by
  unfold txS wayS; rw [List.length_map, List.length_cons, climbL_length _ _ _ h, h]
theorem txS_zero (x : Sh) (ts : List (Nat × Nat)) (ps : List Sm) : txS x (ts.take 0) (ps.take 0) = [leafT x] := by simp [txS, wayS, climbL]
theorem txS_succ (x : Sh) (ts : List (Nat × Nat)) (ps : List Sm) (r : Nat) (h : r < ts.length) (h2 : r < ps.length) : txS x (ts.take (r + 1)) (ps.take (r + 1)) = txS x (ts.take r) (ps.take r) ++ [upText ts[r] ps[r] (climbAt (leafS x) ts ps r)] := by
  unfold txS wayS; rw [climbL_take _ _ _ _ h h2]; simp
theorem txS_all (x : Sh) (ts : List (Nat × Nat)) (ps : List Sm) (r : Nat) (h : ts.length = r) (h2 : ps.length = r) : txS x (ts.take r) (ps.take r) = txS x ts ps := by
  rw [List.take_of_length_le (by omega), List.take_of_length_le (by omega)]

end Go.Proofs.YtobcfhninchnkaaDoor

namespace Go.Proofs.YtobcfhninchnkaaDoor
open Go Go.RowKit
set_option linter.unusedVariables false
set_option maxRecDepth 100000

theorem ownR_one {W : World} {base g : Nat} {v : Value} {E : TypeId} (hb : base ≤ g) (hg : W.heap[g]? = some (.cells #[v] E (0, 0))) : OwnR W base E 1 vEnc (.slice (some ⟨g, 0, none⟩) 1 1) [v] :=
  ⟨rfl, .inr ⟨g, 1, #[v], rfl, hb, hg, Nat.le_refl _, by unfold maxLen; omega, rfl, rfl⟩⟩
theorem OwnR.notOwn {W : World} {base : Nat} {E : TypeId} {k : Nat} {α : Type} {enc : α → List Value} {v : Value} {l : List α} {b : Nat} {cur : Array Value} {t : TypeId} {fr : Nat × Nat} (h : OwnR W base E k enc v l) (hb : W.heap[b]? = some (.cells cur t fr)) (ht : t ≠ E) : v.ownBlock ≠ some b := fun e => by
  obtain ⟨c, hc⟩ := h.isR b e
  rw [hc] at hb
  injection hb with hb
  injection hb with h1 h2
  exact ht h2.symm

def RetTx (w : World) (l : List (List UInt8)) (e : Ending) (w' : World) : Prop := ∃ v us, e = .returned v ∧ OwnR w' w.heap.size 45 1 vEnc v us ∧ TX w' us l ∧ Up w w'

set_option maxHeartbeats 8000000 in
theorem rtexts_calls (n i : Nat) (x : Sh) (p : Option Addr) (m c : Nat) (ps : List Sm) (vs : Value) (bs : Nat) (w : World) (hm : m = ps.length) (hlen : ps.length = (turnsS n i).length) (hn : n ≤ 600) (hf : fineB x = true) (hall : ps.all rightB = true) (hl : ∀ s ∈ ps, s.hash.length = 32) (hrow : RowAt w p 35 smCells ps) (hc : m ≤ c) (hcm : c ≤ maxLen) (htab : Tabs w) (hs : OwnR w bs 4 1 bEnc vs (sidesB n i)) :
    Calls Tryd.prog 44 #[vs, .agg (shCells x), .slice p m c] w (RetTx w (txS x (turnsS n i).reverse ps)) := by
  obtain ⟨psd, csd, rfl, hs1, hs2, -, -⟩ := hs.form (fun x _ => bEnc_len x)
  have hx := (fineB_wf hf).1
  have LT := Lib.hid fun W => rleafText_callsO x hx W
  have LF := Lib.hid fun W (hu : Up w W) => rleaf_calls x hx W (htab.up hu)
  have hlsl := leafS_le hf
  have hls := hlsl.hash
  have Ls : Hid ((smCells (leafS x)).toArray.size = 35) := by have := smCells_len hls; show _ = _; simpa using this
  have Lc : Hid ((smCells (leafS x)).toArray.all (·.oneCell') = true) := smCells_all _
  obtain ⟨L, hL⟩ : ∃ L, L = (smCells (leafS x)).toArray := ⟨_, rfl⟩
  rw [← hL] at LF Ls Lc
  have HLE0 := Lib.hid hL
  have HLSL := Lib.hid hlsl
  have hAs : Hid ((shCells x).size = 5) := rfl
  obtain ⟨A, hA⟩ : ∃ A, A = shCells x := ⟨_, rfl⟩
  rw [← hA] at LT LF hAs ⊢
  obtain ⟨sd, hsd⟩ : ∃ sd, sd = sidesB n i := ⟨_, rfl⟩
  have HSD := Lib.hid hsd
  rw [← hsd] at hs hs1
  have hsl : sd.length = m := by rw [hsd, sidesB_length, hm, hlen]
  have hm7 : m ≤ 700 := by have := turnsS_length n n i rfl; omega
  rw [show (sidesB n i).length = m from by rw [← hsd]; exact hsl]
  rw [hsl] at hs
  have HSL := Lib.hid hsl
  have HS := Lib.hid hs
  have HTT : Hid ((turnsS n i).reverse.length = m) := by show _ = _; rw [List.length_reverse, hm, hlen]
  have HM := Lib.hid hm
  have HL := Lib.hid hl
  have HROW := Lib.hid hrow
  have HT := Lib.hid htab
  have HALL := Lib.hid hall
  clear hL hA hsd hsl hs hs1 hs2 hm hlen hall hl hrow htab hx hf hlsl hls
  go_enter Tryd.func44, Tryd.ntmps44
  go_wp2_with (first | ((with_reducible show wpList _ _ _ (Oper.mk _ (Op.load _ (Operand.tmp 4)) _ _ _ _ :: _) _ _); refine wpList_named ?_; intro W1 hW1; (have u1 : Up w W1 := by (rw [hW1]; exact (Up.refl w).alloc _)); (have xa : W1.heap[w.heap.size]? = some (.cells A 38 (0, 0)) := by (rw [hW1]; exact heap_new rfl)); have U1 := Lib.hid u1; have XA := Lib.hid xa; clear u1 xa hW1; refine wpList_load_arr rfl 38 (.tmp 4) rfl w.heap.size 0 rfl A _ (rangeAt_row XA.out) rfl rfl (by rw [hAs.out]; rfl) ?_))
  refine (LT.out W1).mono ?_
  rintro e W2 ⟨v0, rfl, o2, u2⟩
  obtain ⟨q0, c0, rfl, -, -, -⟩ := o2.form
  have U2 : Hid (Up w W2) := Up.trans U1.out u2
  have XA2 := Lib.hid ((u2.block _ (lt_of_block XA.out)).trans XA.out)
  have O2 := Lib.hid (o2.less (Nat.zero_le _))
  clear o2 u2 XA LT
  go_wp2_with ((with_reducible show wpList _ _ _ (Oper.mk _ (Op.load _ (Operand.tmp 4)) _ _ _ _ :: _) _ _); refine wpList_named ?_; intro W3 hW3; (have u3 : Up W2 W3 := by (rw [hW3]; exact (Up.refl W2).alloc _)); (have x3 : W3.heap[W2.heap.size]? = some (.cells #[.slice q0 (leafT x).length c0] 45 (0, 0)) := by (rw [hW3]; exact heap_new rfl)); (have O3 : Hid (OwnR W3 w.heap.size 45 1 vEnc (.slice (some ⟨W2.heap.size, 0, none⟩) 1 1) [.slice q0 (leafT x).length c0]) := ownR_one U2.out.size x3); (have T3 : Hid (TX W3 [.slice q0 (leafT x).length c0] [leafT x]) := (TX.nil _).snoc (O2.out.up u3)); have XA3 := Lib.hid ((u3.block _ (lt_of_block XA2.out)).trans XA2.out); have U3 : Hid (Up w W3) := Up.trans U2.out u3; clear u3 x3 hW3; refine wpList_load_arr rfl 38 (.tmp 4) rfl w.heap.size 0 rfl A _ (rangeAt_row XA3.out) rfl rfl (by rw [hAs.out]; rfl) ?_)
  refine (LF.out W3 U3.out).mono ?_
  rintro e W4 ⟨rfl, u4⟩
  have U4 : Hid (Up w W4) := Up.trans U3.out u4
  have O4 := Lib.hid (O3.out.up u4)
  have T4 := Lib.hid (T3.out.up u4)
  clear u4 O3 T3 XA2 XA3 LF
  go_wp2_with (first | (refine wpList_allocG rfl 28 35 allocsSum rfl ?_; intro W7 u7 z7 hz7; obtain ⟨Z7, hZ7, hb7⟩ := hz7; have U7 := Lib.hid u7; have HZ7 := Lib.hid hZ7; have HB7 := Lib.hid hb7; clear u7 z7 hZ7 hb7) | (refine wpList_store_row rfl 28 (.tmp 8) (.tmp 14) rfl _ L rfl rfl 28 _ HB7.out (by rw [Ls.out]; rfl) (by rw [HZ7.out, Ls.out]) Lc.out ?_; refine wpList_named ?_; intro W8 hW8; (have u8 : Up W4 W8 := setRow_upN hW8 U7.out (Nat.le_refl _)); (have p8 := setRow_named hW8 HB7.out); have P8 := Lib.hid p8; have O8 := Lib.hid (O4.out.up u8); have T8 := Lib.hid (T4.out.up u8); (have U8 : Hid (Up w W8) := Up.trans U4.out u8); clear p8 u8 hW8))
  obtain ⟨b8, hb8⟩ : ∃ b, b = W4.heap.size := ⟨_, rfl⟩
  have H8 : Hid (w.heap.size ≤ b8) := by have := U4.out.size; show _ ≤ _; omega
  rw [← hb8] at P8 ⊢
  clear hb8 HB7 U7 O4 T4
  go_loopw [7, 9] (fun v7 v9 wq => ∃ (r : Nat) (us : List Value), r ≤ m ∧ v9 = .int .i64 r ∧ Hid (OwnR wq w.heap.size 45 1 vEnc v7 us) ∧ Hid (TX wq us (txS x ((turnsS n i).reverse.take r) (ps.take r))) ∧ Hid (wq.heap[b8]? = some (.cells (smCells (climbAt (leafS x) (turnsS n i).reverse ps r)).toArray 28 (0, 0))) ∧ Hid (Up w wq) ∧ Hid ((climbAt (leafS x) (turnsS n i).reverse ps r).le ((r + 1 : Nat) * 1125899906842624))) (fun _ v9 _ => m - (intOf v9).toNat)
  case atStart => exact ⟨0, _, by omega, rfl, O8, by rw [txS_zero]; exact T8.out, by rw [climbAt_zero, ← HLE0.out]; exact P8.out, U8, by rw [climbAt_zero]; exact HLSL.out.mono (by omega)⟩
  case round =>
    obtain ⟨r, us, hr, rfl, HO, HTX, HX, HU, HLe⟩ := hrel
    by_cases hrk : r < m
    case neg =>
      have e : r = m := by omega
      subst e
      go_wp2
      go_ret
      refine ⟨_, us, rfl, HO.out, ?_, HU.out⟩
      have := HTX.out
      rwa [txS_all _ _ _ _ HTT.out HM.out.symm] at this
    have hrl : r < ps.length := by rw [← HM.out]; exact hrk
    obtain ⟨bp, op, rfl, hpr⟩ := HROW.out (by rintro rfl; simp at hrl)
    have hyh := HL.out _ (List.getElem_mem hrl)
    have hyr := List.all_eq_true.1 HALL.out _ (List.getElem_mem hrl)
    have g := hpr r hrl
    have hrs : r < sd.length := by rw [HSL.out]; exact hrk
    have hrt : r < (turnsS n i).reverse.length := by rw [HTT.out]; exact hrk
    have hOr := HS.out.up HU.out
    obtain ⟨gs, cs', cur, hv, q1, q2, q3, q4, q5, q6⟩ := hOr.form2 (by rintro rfl; simp at hrs)
    injection hv with hv1 hv2 hv3
    rw [hv1] at hOr
    have hsq := hOr.at' (fun y _ => bEnc_len y) r hrs 0 _ rfl
    have hsv : sd[r] = decide ((turnsS n i).reverse[r].2 ≠ 1) := by
      have hh := HSD.out
      subst hh
      exact sidesB_get n i r hrs hrt
    rw [hsv] at hsq
    simp only [Nat.mul_one, Nat.zero_add, Nat.add_zero] at hsq
    have hul : us.length = r + 1 := by
      have h1 := HTX.out.1
      rw [txS_length _ _ _ (by rw [List.length_take, List.length_take, HTT.out, HM.out])] at h1
      rw [h1, List.length_take]; omega
    have hsuc := climbAt_succ (leafS x) (turnsS n i).reverse ps r hrt hrl
    have hte := txS_succ x (turnsS n i).reverse ps r hrt hrl
    obtain ⟨t, ht⟩ : ∃ t, t = (turnsS n i).reverse[r] := ⟨_, rfl⟩
    obtain ⟨y, hy⟩ : ∃ y, y = ps[r] := ⟨_, rfl⟩
    obtain ⟨s, hs⟩ : ∃ s, s = climbAt (leafS x) (turnsS n i).reverse ps r := ⟨_, rfl⟩
    rw [← ht, ← hy, ← hs] at hsuc hte
    rw [← ht] at hsq
    rw [← hy] at hyh hyr g
    have hsl := HLe.out
    rw [← hs] at hsl HX
    have hyl := rightB_le hyh hyr
    have hle := upSum_le (t := t) hyl hsl
    have HLE2 : Hid ((climbAt (leafS x) (turnsS n i).reverse ps (r + 1)).le ((r + 1 + 1 : Nat) * 1125899906842624)) := by rw [hsuc]; exact hle.mono (by omega)
    have hsok : s.ok := hsl.ok (by omega)
    have hyok : y.ok := hyl.ok (by omega)
    have hull : (upSum t y s).hash.length = 32 := Sha.sum_length _
    have Ys : Hid ((smCells y).toArray.size = 35) := by have := smCells_len hyh; show _ = _; simpa using this
    have Ss : Hid ((smCells s).toArray.size = 35) := by have := smCells_len hsok.hash; show _ = _; simpa using this
    have Ns : Hid ((smCells (upSum t y s)).toArray.size = 35) := by have := smCells_len hull; show _ = _; simpa using this
    have Nc : Hid ((smCells (upSum t y s)).toArray.all (·.oneCell') = true) := smCells_all _
    have ND1 : Hid (t.2 = 1 → ∀ W, Up w W → Calls Tryd.prog 42 #[.agg (smCells s).toArray, .agg (smCells y).toArray] W fun e w' => e = .returned (.agg (smCells (upSum t y s)).toArray) ∧ Up W w') := fun h W hu => by
      have : upSum t y s = nodeS s y := by unfold upSum sideA sideB; rw [if_pos h, if_pos h]
      rw [this]; exact rnode_calls s y hsok hyok W (HT.out.up hu)
    have ND2 : Hid (¬ t.2 = 1 → ∀ W, Up w W → Calls Tryd.prog 42 #[.agg (smCells y).toArray, .agg (smCells s).toArray] W fun e w' => e = .returned (.agg (smCells (upSum t y s)).toArray) ∧ Up W w') := fun h W hu => by
      have : upSum t y s = nodeS y s := by unfold upSum sideA sideB; rw [if_neg h, if_neg h]
      rw [this]; exact rnode_calls y s hyok hsok W (HT.out.up hu)
    have NT1 : Hid (t.2 = 1 → ∀ W, Calls Tryd.prog 61 #[.agg (smCells s).toArray, .agg (smCells y).toArray] W (RetO W (upText t y s))) := fun h W => by
      have : upText t y s = nodeT s y := by unfold upText sideA sideB; rw [if_pos h, if_pos h]
      rw [this]; exact rnodeText_callsO s y hsok.wf hyok.wf W
    have NT2 : Hid (¬ t.2 = 1 → ∀ W, Calls Tryd.prog 61 #[.agg (smCells y).toArray, .agg (smCells s).toArray] W (RetO W (upText t y s))) := fun h W => by
      have : upText t y s = nodeT y s := by unfold upText sideA sideB; rw [if_neg h, if_neg h]
      rw [this]; exact rnodeText_callsO y s hyok.wf hsok.wf W
    have G := Lib.hid (show w.rangeAt bp (op + r * 35) (smCells y).toArray.toList from g)
    obtain ⟨Y, hY⟩ : ∃ Y, Y = (smCells y).toArray := ⟨_, rfl⟩
    obtain ⟨S, hS⟩ : ∃ S, S = (smCells s).toArray := ⟨_, rfl⟩
    obtain ⟨N, hN⟩ : ∃ N, N = (smCells (upSum t y s)).toArray := ⟨_, rfl⟩
    rw [← hY] at Ys ND1 ND2 NT1 NT2 G
    rw [← hS] at Ss ND1 ND2 NT1 NT2 HX
    rw [← hN] at Ns Nc ND1 ND2
    have HNX : Hid ((smCells (climbAt (leafS x) (turnsS n i).reverse ps (r + 1))).toArray = N) := by show _ = _; rw [hsuc, hN]
    have HSQ := Lib.hid hsq
    have HTE := Lib.hid hte
    have HUL : Hid (us.length ≤ 1000) := by show _ ≤ _; omega
    clear hsq hsv hY hS hN hsok hyok hull hle hyl hsl hsuc hte hul hs hy ht hyh hyr g hpr hOr q1 q2 q3 q4 q5 q6 hrs hrt HLe hv2 hv3 hrl
    subst hv1
    by_cases htt : t.2 = 1
    case pos =>
      have NDD := Lib.hid (ND1.out htt)
      have NTT := Lib.hid (NT1.out htt)
      have hb : decide (t.2 ≠ 1) = false := by simp [htt]
      have HSQ2 := HSQ.out
      rw [hb] at HSQ2
      clear hb HSQ htt ND1 ND2 NT1 NT2
      go_wp2_with fail
      clear HSQ2
      refine wp_region_mix_at [0, 1, 2, 3, 4, 5] [6, 7, 8, 9] (by kernel_rfl) (by kernel_rfl) (fun _ _ d _ _ h => by cases d <;> exact h) ?_
      intro W U hW
      obtain ⟨C, hC⟩ : ∃ C : World → Prop, C = fun W' => W'.rangeAt bp (op + r * 35) Y.toList ∧ W'.heap[b8]? = some (.cells S 28 (0, 0)) := ⟨_, rfl⟩
      have CI : Hid (∀ W', Up w W' → W'.heap[b8]? = some (.cells S 28 (0, 0)) → C W') := fun W' h1 h2 => by rw [hC]; exact ⟨rangeAt_up G.out h1, h2⟩
      have CO : Hid (∀ z : InC C, z.w.rangeAt bp (op + r * 35) Y.toList ∧ z.w.heap[b8]? = some (.cells S 28 (0, 0))) := fun z => Eq.mp (congrFun hC z.w) z.h
      have UW : Hid (Up w W) := Up.trans HU.out U
      have XW := Lib.hid ((U.block _ (lt_of_block HX.out)).trans HX.out)
      have OW := Lib.hid (HO.out.up U)
      have TW := Lib.hid (HTX.out.up U)
      have hCW := CI.out W UW.out XW.out
      refine ⟨C, hCW, ?_⟩
      haveI : Nonempty (InC C) := ⟨⟨W, hCW⟩⟩
      clear hC hCW U hW HU HX HO HTX
      simp only [pick, List.getElem?_cons_zero, List.getElem?_cons_succ]
      repeat (first | ((with_reducible show wpStillC _ _ _ _ (Oper.mk _ (Op.load _ (Operand.tmp 44)) _ _ _ _ :: _) _); refine wpStillC_load_arr (by rfl) 28 (.tmp 44) rfl bp (op + r * 35) rfl Y _ (fun w' hw' => by (obtain ⟨z, rfl⟩ := hw'; exact (CO.out z).1)) rfl rfl (by rw [Ys.out]; rfl) ?_) | ((with_reducible show wpStillC _ _ _ _ (Oper.mk _ (Op.load _ (Operand.tmp 8)) _ _ _ _ :: _) _); refine wpStillC_load_arr (by rfl) 28 (.tmp 8) rfl b8 0 rfl S _ (fun w' hw' => by (obtain ⟨z, rfl⟩ := hw'; exact rangeAt_row (CO.out z).2)) rfl rfl (by rw [Ss.out]; rfl) ?_) | (refine wpStillC_step (fun K hK => ?_); go_simp; refine hK _ ?_; clear hK K))
      refine wpStillC_nil ?_
      clear CO
      refine wpChain_step (fun K hK => ?_)
      go_simp
      refine (NTT.out W).mono ?_
      rintro e w1 ⟨v1, rfl, o1, u1⟩
      obtain ⟨q1, c1, rfl, -, -, -⟩ := o1.form
      have U1 : Hid (Up w w1) := Up.trans UW.out u1
      have X1 := Lib.hid ((u1.block _ (lt_of_block XW.out)).trans XW.out)
      have O1 := Lib.hid (OW.out.up u1)
      have T1 := Lib.hid (TW.out.up u1)
      have N1 := Lib.hid (o1.less (Nat.zero_le _))
      refine hK _ _ ⟨⟨w1, CI.out w1 U1.out X1.out⟩, rfl⟩ ?_
      clear hK K o1 u1 OW TW XW
      refine wpChain_step (fun K hK => ?_)
      go_simp
      obtain ⟨w2, hw2⟩ : ∃ w2, w2 = w1.alloc (.cells #[.slice q1 (upText t y s).length c1] 45 (0, 0)) := ⟨_, rfl⟩
      try rw [← hw2]
      have u2 : Up w1 w2 := by rw [hw2]; exact (Up.refl w1).alloc _
      have r2 : RowAt w2 (some ⟨w1.heap.size, 0, none⟩) 1 vEnc [.slice q1 (upText t y s).length c1] := rowAt_one (D := #[.slice q1 (upText t y s).length c1]) rfl (by rw [hw2]; exact heap_new rfl)
      have U2 : Hid (Up w w2) := Up.trans U1.out u2
      have X2 := Lib.hid ((u2.block _ (lt_of_block X1.out)).trans X1.out)
      have O2 := Lib.hid (O1.out.up u2)
      have T2 := Lib.hid (T1.out.up u2)
      have N2 := Lib.hid (N1.out.up u2)
      refine hK _ _ ⟨⟨w2, CI.out w2 U2.out X2.out⟩, rfl⟩ ?_
      clear hK K u2 hw2 O1 T1 N1 X1
      refine wpChain_want rfl (fun K hK => ?_)
      refine wp_appR (.tmp 40) (.tmp 47) eltTxt (by omega) rfl rfl w.heap.size _ us _ 1 1 [.slice q1 (upText t y s).length c1] rfl rfl rfl (fun v _ => vEnc_len v) (fun v hv u hu => by rw [List.mem_singleton.1 hv] at hu; rw [List.mem_singleton.1 hu]; rfl) O2.out r2 (by have := HUL.out; simp; omega) U2.out.size ?_
      intro p' m' d' w7 o7 b7 g7
      have O7 := Lib.hid o7
      have U7 : Hid (Up w w7) := Below.trans U2.out b7
      have T7 : Hid (TX w7 (us ++ [.slice q1 (upText t y s).length c1]) (txS x ((turnsS n i).reverse.take (r + 1)) (ps.take (r + 1)))) := by show TX _ _ _; rw [HTE.out]; exact (T2.out.snoc N2.out).grow O2.out g7
      have X7 := Lib.hid ((g7.block (lt_of_block X2.out) (OwnR.notOwn O2.out X2.out sum_txt)).trans X2.out)
      refine hK _ _ ⟨⟨w7, CI.out w7 U7.out X7.out⟩, rfl⟩ ?_
      clear hK K o7 b7 g7 r2 O2 T2 N2 X2
      refine wpChain_step (fun K hK => ?_)
      go_simp
      refine hK _ _ ⟨⟨w7, CI.out w7 U7.out X7.out⟩, rfl⟩ ?_
      clear hK K
      refine wpChain_nil ?_
      clear CI
      haveI := UpW.some_ w7.drew
      have hz := Lib.hid fun (z : UpW w7.drew) => (Up.trans (Up.refl w7).drew z.up : Up w7 z.w)
      go_wp2_with fail
      refine wp_region_up_tail 6 (by kernel_rfl) (by kernel_rfl) ?_
      simp only [List.take_succ_cons, List.take_zero, List.drop_succ_cons, List.drop_zero]
      repeat (first | ((with_reducible show wpQuiet _ _ _ _ (Oper.mk _ (Op.load _ (Operand.tmp 52)) _ _ _ _ :: _) _); refine wpQuiet_load_arr (by rfl) 28 (.tmp 52) rfl bp (op + r * 35) rfl Y _ (fun w' hw' => by (obtain ⟨z, rfl⟩ := hw'; exact rangeAt_up G.out (Up.trans U7.out (hz.out z)))) rfl rfl (by rw [Ys.out]; rfl) ?_) | ((with_reducible show wpQuiet _ _ _ _ (Oper.mk _ (Op.load _ (Operand.tmp 8)) _ _ _ _ :: _) _); refine wpQuiet_load_arr (by rfl) 28 (.tmp 8) rfl b8 0 rfl S _ (fun w' hw' => by (obtain ⟨z, rfl⟩ := hw'; exact rangeAt_row (((hz.out z).block _ (lt_of_block X7.out)).trans X7.out))) rfl rfl (by rw [Ss.out]; rfl) ?_) | ((with_reducible show wpQuiet _ _ _ _ (Oper.mk (some 54) _ _ _ _ _ :: _) _); with_reducible refine wpQuiet_step (fun K hK => ?_); go_simp; apply Exists.intro; refine ⟨fun _ => ?_, hK _ ?_⟩; (go_at_call 42; with_reducible exact Calls.quiet_up (NDD.out _ (Up.trans U7.out (hz.out _)))); clear hK K) | (with_reducible refine wpQuiet_step (fun K hK => ?_); go_simp; with_reducible refine hK _ ?_; clear hK K))
      refine wpQuiet_nil ?_
      rintro w9 ⟨z, hz9⟩
      have u9 : Up w7 w9 := by rw [hz9]; exact hz.out z
      have X9 := Lib.hid ((u9.block _ (lt_of_block X7.out)).trans X7.out)
      have U9 : Hid (Up w w9) := Up.trans U7.out u9
      have O9 := Lib.hid (O7.out.up u9)
      have T9 := Lib.hid (T7.out.up u9)
      clear hz9 u9 hz NDD O7 T7 X7 U7
      go_wp2_with (refine wpList_store_row rfl 28 (.tmp 8) (.tmp 54) rfl b8 N rfl rfl 28 _ X9.out (by rw [Ns.out]; rfl) (by rw [Ss.out, Ns.out]) Nc.out ?_; refine wpList_named ?_; intro W10 hW10; have u10 := setRow_upN hW10 U9.out H8.out; have x10 := setRow_named hW10 X9.out; rw [← HNX.out] at x10; have X10 := Lib.hid x10; have U10 := Lib.hid u10; (have T10 := Lib.hid (show TX W10 _ _ by (rw [hW10]; exact T9.out.set X9.out sum_type))); (have O10 := Lib.hid (O9.out.kept (w' := W10) fun g hg => by (rw [hW10]; exact setRow_other _ _ _ _ (fun e => OwnR.notOwn O9.out X9.out sum_txt (by rw [hg, e]))))); clear hW10 u10 x10)
      exact ⟨⟨r + 1, us ++ [.slice q1 (upText t y s).length c1], by omega, by go_num, O10, T10, X10, U10, HLE2⟩, by simp [intOf]; omega⟩
    case neg =>
      have NDD := Lib.hid (ND2.out htt)
      have NTT := Lib.hid (NT2.out htt)
      have hb : decide (t.2 ≠ 1) = true := by simp [htt]
      have HSQ2 := HSQ.out
      rw [hb] at HSQ2
      clear hb HSQ htt ND1 ND2 NT1 NT2
      go_wp2_with fail
      clear HSQ2
      refine wp_region_mix_at [0, 1, 2, 3, 4, 5] [6, 7, 8, 9] (by kernel_rfl) (by kernel_rfl) (fun _ _ d _ _ h => by cases d <;> exact h) ?_
      intro W U hW
      obtain ⟨C, hC⟩ : ∃ C : World → Prop, C = fun W' => W'.rangeAt bp (op + r * 35) Y.toList ∧ W'.heap[b8]? = some (.cells S 28 (0, 0)) := ⟨_, rfl⟩
      have CI : Hid (∀ W', Up w W' → W'.heap[b8]? = some (.cells S 28 (0, 0)) → C W') := fun W' h1 h2 => by rw [hC]; exact ⟨rangeAt_up G.out h1, h2⟩
      have CO : Hid (∀ z : InC C, z.w.rangeAt bp (op + r * 35) Y.toList ∧ z.w.heap[b8]? = some (.cells S 28 (0, 0))) := fun z => Eq.mp (congrFun hC z.w) z.h
      have UW : Hid (Up w W) := Up.trans HU.out U
      have XW := Lib.hid ((U.block _ (lt_of_block HX.out)).trans HX.out)
      have OW := Lib.hid (HO.out.up U)
      have TW := Lib.hid (HTX.out.up U)
      have hCW := CI.out W UW.out XW.out
      refine ⟨C, hCW, ?_⟩
      haveI : Nonempty (InC C) := ⟨⟨W, hCW⟩⟩
      clear hC hCW U hW HU HX HO HTX
      simp only [pick, List.getElem?_cons_zero, List.getElem?_cons_succ]
      repeat (first | ((with_reducible show wpStillC _ _ _ _ (Oper.mk _ (Op.load _ (Operand.tmp 28)) _ _ _ _ :: _) _); refine wpStillC_load_arr (by rfl) 28 (.tmp 28) rfl bp (op + r * 35) rfl Y _ (fun w' hw' => by (obtain ⟨z, rfl⟩ := hw'; exact (CO.out z).1)) rfl rfl (by rw [Ys.out]; rfl) ?_) | ((with_reducible show wpStillC _ _ _ _ (Oper.mk _ (Op.load _ (Operand.tmp 8)) _ _ _ _ :: _) _); refine wpStillC_load_arr (by rfl) 28 (.tmp 8) rfl b8 0 rfl S _ (fun w' hw' => by (obtain ⟨z, rfl⟩ := hw'; exact rangeAt_row (CO.out z).2)) rfl rfl (by rw [Ss.out]; rfl) ?_) | (refine wpStillC_step (fun K hK => ?_); go_simp; refine hK _ ?_; clear hK K))
      refine wpStillC_nil ?_
      clear CO
      refine wpChain_step (fun K hK => ?_)
      go_simp
      refine (NTT.out W).mono ?_
      rintro e w1 ⟨v1, rfl, o1, u1⟩
      obtain ⟨q1, c1, rfl, -, -, -⟩ := o1.form
      have U1 : Hid (Up w w1) := Up.trans UW.out u1
      have X1 := Lib.hid ((u1.block _ (lt_of_block XW.out)).trans XW.out)
      have O1 := Lib.hid (OW.out.up u1)
      have T1 := Lib.hid (TW.out.up u1)
      have N1 := Lib.hid (o1.less (Nat.zero_le _))
      refine hK _ _ ⟨⟨w1, CI.out w1 U1.out X1.out⟩, rfl⟩ ?_
      clear hK K o1 u1 OW TW XW
      refine wpChain_step (fun K hK => ?_)
      go_simp
      obtain ⟨w2, hw2⟩ : ∃ w2, w2 = w1.alloc (.cells #[.slice q1 (upText t y s).length c1] 45 (0, 0)) := ⟨_, rfl⟩
      try rw [← hw2]
      have u2 : Up w1 w2 := by rw [hw2]; exact (Up.refl w1).alloc _
      have r2 : RowAt w2 (some ⟨w1.heap.size, 0, none⟩) 1 vEnc [.slice q1 (upText t y s).length c1] := rowAt_one (D := #[.slice q1 (upText t y s).length c1]) rfl (by rw [hw2]; exact heap_new rfl)
      have U2 : Hid (Up w w2) := Up.trans U1.out u2
      have X2 := Lib.hid ((u2.block _ (lt_of_block X1.out)).trans X1.out)
      have O2 := Lib.hid (O1.out.up u2)
      have T2 := Lib.hid (T1.out.up u2)
      have N2 := Lib.hid (N1.out.up u2)
      refine hK _ _ ⟨⟨w2, CI.out w2 U2.out X2.out⟩, rfl⟩ ?_
      clear hK K u2 hw2 O1 T1 N1 X1
      refine wpChain_want rfl (fun K hK => ?_)
      refine wp_appR (.tmp 25) (.tmp 32) eltTxt (by omega) rfl rfl w.heap.size _ us _ 1 1 [.slice q1 (upText t y s).length c1] rfl rfl rfl (fun v _ => vEnc_len v) (fun v hv u hu => by rw [List.mem_singleton.1 hv] at hu; rw [List.mem_singleton.1 hu]; rfl) O2.out r2 (by have := HUL.out; simp; omega) U2.out.size ?_
      intro p' m' d' w7 o7 b7 g7
      have O7 := Lib.hid o7
      have U7 : Hid (Up w w7) := Below.trans U2.out b7
      have T7 : Hid (TX w7 (us ++ [.slice q1 (upText t y s).length c1]) (txS x ((turnsS n i).reverse.take (r + 1)) (ps.take (r + 1)))) := by show TX _ _ _; rw [HTE.out]; exact (T2.out.snoc N2.out).grow O2.out g7
      have X7 := Lib.hid ((g7.block (lt_of_block X2.out) (OwnR.notOwn O2.out X2.out sum_txt)).trans X2.out)
      refine hK _ _ ⟨⟨w7, CI.out w7 U7.out X7.out⟩, rfl⟩ ?_
      clear hK K o7 b7 g7 r2 O2 T2 N2 X2
      refine wpChain_step (fun K hK => ?_)
      go_simp
      refine hK _ _ ⟨⟨w7, CI.out w7 U7.out X7.out⟩, rfl⟩ ?_
      clear hK K
      refine wpChain_nil ?_
      clear CI
      haveI := UpW.some_ w7.drew
      have hz := Lib.hid fun (z : UpW w7.drew) => (Up.trans (Up.refl w7).drew z.up : Up w7 z.w)
      go_wp2_with fail
      refine wp_region_up_tail 6 (by kernel_rfl) (by kernel_rfl) ?_
      simp only [List.take_succ_cons, List.take_zero, List.drop_succ_cons, List.drop_zero]
      repeat (first | ((with_reducible show wpQuiet _ _ _ _ (Oper.mk _ (Op.load _ (Operand.tmp 36)) _ _ _ _ :: _) _); refine wpQuiet_load_arr (by rfl) 28 (.tmp 36) rfl bp (op + r * 35) rfl Y _ (fun w' hw' => by (obtain ⟨z, rfl⟩ := hw'; exact rangeAt_up G.out (Up.trans U7.out (hz.out z)))) rfl rfl (by rw [Ys.out]; rfl) ?_) | ((with_reducible show wpQuiet _ _ _ _ (Oper.mk _ (Op.load _ (Operand.tmp 8)) _ _ _ _ :: _) _); refine wpQuiet_load_arr (by rfl) 28 (.tmp 8) rfl b8 0 rfl S _ (fun w' hw' => by (obtain ⟨z, rfl⟩ := hw'; exact rangeAt_row (((hz.out z).block _ (lt_of_block X7.out)).trans X7.out))) rfl rfl (by rw [Ss.out]; rfl) ?_) | ((with_reducible show wpQuiet _ _ _ _ (Oper.mk (some 39) _ _ _ _ _ :: _) _); with_reducible refine wpQuiet_step (fun K hK => ?_); go_simp; apply Exists.intro; refine ⟨fun _ => ?_, hK _ ?_⟩; (go_at_call 42; with_reducible exact Calls.quiet_up (NDD.out _ (Up.trans U7.out (hz.out _)))); clear hK K) | (with_reducible refine wpQuiet_step (fun K hK => ?_); go_simp; with_reducible refine hK _ ?_; clear hK K))
      refine wpQuiet_nil ?_
      rintro w9 ⟨z, hz9⟩
      have u9 : Up w7 w9 := by rw [hz9]; exact hz.out z
      have X9 := Lib.hid ((u9.block _ (lt_of_block X7.out)).trans X7.out)
      have U9 : Hid (Up w w9) := Up.trans U7.out u9
      have O9 := Lib.hid (O7.out.up u9)
      have T9 := Lib.hid (T7.out.up u9)
      clear hz9 u9 hz NDD O7 T7 X7 U7
      go_wp2_with (refine wpList_store_row rfl 28 (.tmp 8) (.tmp 39) rfl b8 N rfl rfl 28 _ X9.out (by rw [Ns.out]; rfl) (by rw [Ss.out, Ns.out]) Nc.out ?_; refine wpList_named ?_; intro W10 hW10; have u10 := setRow_upN hW10 U9.out H8.out; have x10 := setRow_named hW10 X9.out; rw [← HNX.out] at x10; have X10 := Lib.hid x10; have U10 := Lib.hid u10; (have T10 := Lib.hid (show TX W10 _ _ by (rw [hW10]; exact T9.out.set X9.out sum_type))); (have O10 := Lib.hid (O9.out.kept (w' := W10) fun g hg => by (rw [hW10]; exact setRow_other _ _ _ _ (fun e => OwnR.notOwn O9.out X9.out sum_txt (by rw [hg, e]))))); clear hW10 u10 x10)
      exact ⟨⟨r + 1, us ++ [.slice q1 (upText t y s).length c1], by omega, by go_num, O10, T10, X10, U10, HLE2⟩, by simp [intOf]; omega⟩

end Go.Proofs.YtobcfhninchnkaaDoor

namespace Go.Proofs.YtobcfhninchnkaaDoor
open Go Go.RowKit
set_option linter.unusedVariables false
set_option maxRecDepth 100000

theorem cell_up {w w' : World} {b o : Nat} {v : Value} (h : w.cell? ⟨b, o, none⟩ = some v) (hu : Up w w') : w'.cell? ⟨b, o, none⟩ = some v := (hu.below.cell (p := ⟨b, o, none⟩) (block_lt_of_cell h)).trans h

set_option maxHeartbeats 2000000 in
theorem sequal_calls (p q : Option Addr) (n m c d : Nat) (l k : List UInt8) (w : World) (hn : n = l.length) (hm : m = k.length) (hn7 : n ≤ 1000000) (hc : n ≤ c) (hcm : c ≤ maxLen) (hd : m ≤ d) (hdm : d ≤ maxLen) (h1 : SB w p l) (h2 : SB w q k) :
    Calls Tryd.prog 43 #[.slice p n c, .slice q m d] w fun e w' => e = .returned (.bool (decide (l = k))) ∧ Up w w' := by
  obtain ⟨V, hV⟩ : ∃ V, V = decide (l = k) := ⟨_, rfl⟩
  rw [← hV]
  by_cases hnm : n = m
  case neg =>
    have d1 : (((n : Nat) : Int) != ((m : Nat) : Int)) = true := by rw [bne_iff_ne]; omega
    have e : V = false := by rw [hV]; exact decide_eq_false (by rintro rfl; omega)
    rw [e]
    clear hV hn hm h1 h2 hnm e
    go_enter Tryd.func43, Tryd.ntmps43
    go_wp2
    go_ret
    exact ⟨rfl, Up.refl _⟩
  subst hnm
  have HV := Lib.hid hV
  have HN := Lib.hid hn
  have HM := Lib.hid hm
  have H1 := Lib.hid h1
  have H2 := Lib.hid h2
  clear hV hn hm h1 h2
  go_enter Tryd.func43, Tryd.ntmps43
  go_wp2
  go_loopw [5, 13] (fun _ v wq => ∃ i : Nat, i ≤ n ∧ v = .int .i64 i ∧ Hid (l.take i = k.take i) ∧ Hid (Up w wq)) (fun _ v _ => n - (intOf v).toNat)
  case atStart => exact ⟨0, by omega, rfl, by simp [Lib.hid], Up.refl _⟩
  case round =>
    obtain ⟨i, hi, rfl, HT, HU⟩ := hrel
    by_cases hlt : i < n
    case neg =>
      have hv : V = true := by
        rw [HV.out, decide_eq_true_eq]
        have := HT.out
        rw [List.take_of_length_le (by rw [← HN.out]; omega), List.take_of_length_le (by rw [← HM.out]; omega)] at this
        exact this
      subst hv
      go_wp2
      go_ret
      exact ⟨rfl, HU.out⟩
    have hil : i < l.length := by rw [← HN.out]; exact hlt
    have hik : i < k.length := by rw [← HM.out]; exact hlt
    obtain ⟨b1, o1, rfl, hr1⟩ := H1.out (by rintro rfl; simp at hil)
    obtain ⟨b2, o2, rfl, hr2⟩ := H2.out (by rintro rfl; simp at hik)
    have g1 := cell_up (hr1 i hil) HU.out
    have g2 := cell_up (hr2 i hik) HU.out
    have htk1 := List.take_succ_eq_append_getElem hil
    have htk2 := List.take_succ_eq_append_getElem hik
    have hne : l[i] ≠ k[i] → V = false := fun hne => by
      rw [HV.out]
      exact decide_eq_false fun e => hne (by simp only [e])
    obtain ⟨x, hxx⟩ : ∃ x, x = l[i] := ⟨_, rfl⟩
    obtain ⟨y, hyy⟩ : ∃ y, y = k[i] := ⟨_, rfl⟩
    rw [← hxx] at g1 htk1 hne
    rw [← hyy] at g2 htk2 hne
    have k1 : ∀ z : UpW wr.drew, z.w.cell? ⟨b1, o1 + i, none⟩ = some (.int .u8 (x.toNat : Nat)) := fun z => cell_up g1 (Up.trans (Up.refl wr).drew z.up)
    have k2 : ∀ z : UpW wr.drew, z.w.cell? ⟨b2, o2 + i, none⟩ = some (.int .u8 (y.toNat : Nat)) := fun z => cell_up g2 (Up.trans (Up.refl wr).drew z.up)
    have hz := Lib.hid fun (z : UpW wr.drew) => (Up.trans (Up.refl wr).drew z.up : Up wr z.w)
    haveI := UpW.some_ wr.drew
    have HNE := Lib.hid hne
    have K1 := Lib.hid htk1
    have K2 := Lib.hid htk2
    clear hxx hyy g1 g2 hr1 hr2 htk1 htk2 hne hil hik
    by_cases hxy : x = y
    case neg =>
      have d1 : (((x.toNat : Nat) : Int) != ((y.toNat : Nat) : Int)) = true := by rw [bne_iff_ne]; exact fun e => hxy (UInt8.toNat_inj.1 (by omega))
      have hv : V = false := HNE.out hxy
      subst hv
      clear HNE hxy
      go_wp2_with fail
      refine wp_region_up (by kernel_rfl) (by kernel_rfl) ?_
      repeat (refine wpQuiet_step (fun K hK => ?_); go_simp; refine hK _ ?_; clear hK K)
      refine wpQuiet_nil ?_
      rintro w4 ⟨z, hz4⟩
      have U4 : Hid (Up w w4) := by show Up _ _; rw [hz4]; exact Up.trans HU.out (hz.out z)
      clear hz4 hz k1 k2
      go_wp2
      go_ret
      exact ⟨rfl, U4.out⟩
    subst hxy
    have d1 : (((x.toNat : Nat) : Int) != ((x.toNat : Nat) : Int)) = false := by simp
    have HT2 : Hid (l.take (i + 1) = k.take (i + 1)) := by show _ = _; rw [K1.out, K2.out, HT.out]
    clear HNE
    go_wp2_with fail
    refine wp_region_up (by kernel_rfl) (by kernel_rfl) ?_
    repeat (refine wpQuiet_step (fun K hK => ?_); go_simp; refine hK _ ?_; clear hK K)
    refine wpQuiet_nil ?_
    rintro w4 ⟨z, hz4⟩
    have U4 : Hid (Up w w4) := by show Up _ _; rw [hz4]; exact Up.trans HU.out (hz.out z)
    clear hz4 hz k1 k2
    go_wp2
    exact ⟨⟨i + 1, by omega, by go_num, HT2, U4⟩, by simp [intOf]; omega⟩

/-! ### what Collide finds -/
/-- below the k-th text: the last that differ -/
def scanS (a b : List (List UInt8)) : Nat → List UInt8 × List UInt8 × Bool
  | 0 => ([], [], false)
  | k + 1 => if a.getD k [] = b.getD k [] then scanS a b k else (a.getD k [], b.getD k [], true)
def collS (n i : Int) (x y : Sh) (ps qs : List Sm) : List UInt8 × List UInt8 × Bool :=
  if climbE n i x ps = 0 ∧ climbE n i y qs = 0 ∧ climbS n i x ps = climbS n i y qs then
    scanS (txS x (turnsS n.toNat i.toNat).reverse ps) (txS y (turnsS n.toNat i.toNat).reverse qs) (ps.length + 1)
  else ([], [], false)
def RetC (w : World) (r : List UInt8 × List UInt8 × Bool) (e : Ending) (w' : World) : Prop := ∃ v1 v2, e = .returned (.tuple #[v1, v2, .bool r.2.2]) ∧ Own w' 0 v1 r.1 ∧ Own w' 0 v2 r.2.1 ∧ Up w w'
theorem climbE_ok {n i : Int} {x : Sh} {ps : List Sm} (h : climbE n i x ps = 0) : ∃ N I : Nat, n = N ∧ i = I ∧ 1 ≤ N ∧ N ≤ 600 ∧ I < N ∧ fineB x = true ∧ ps.length = (turnsS N I).length ∧ ps.all rightB = true := by
  unfold climbE at h
  by_cases h1 : n < 1 ∨ 600 < n
  · rw [if_pos h1] at h; omega
  rw [if_neg h1] at h
  by_cases h2 : i < 0 ∨ n ≤ i
  · rw [if_pos h2] at h; omega
  rw [if_neg h2] at h
  have hb : badClimb n i x ps = false := by
    rcases Bool.eq_false_or_eq_true (badClimb n i x ps) with h3 | h3
    · rw [h3] at h; simp at h
    · exact h3
  unfold badClimb at hb
  simp only [Bool.or_eq_false_iff, Bool.not_eq_false', decide_eq_false_iff_not, Classical.not_not] at hb
  refine ⟨n.toNat, i.toNat, by omega, by omega, by omega, by omega, by omega, hb.1.1, hb.1.2, hb.2⟩
theorem collS_cases (n i : Int) (x y : Sh) (ps qs : List Sm) :
    (climbE n i x ps ≠ 0 ∧ collS n i x y ps qs = ([], [], false)) ∨ (climbE n i x ps = 0 ∧ climbE n i y qs ≠ 0 ∧ collS n i x y ps qs = ([], [], false)) ∨
    (climbE n i x ps = 0 ∧ climbE n i y qs = 0 ∧ climbS n i x ps ≠ climbS n i y qs ∧ collS n i x y ps qs = ([], [], false)) ∨
    (climbE n i x ps = 0 ∧ climbE n i y qs = 0 ∧ climbS n i x ps = climbS n i y qs ∧ collS n i x y ps qs = scanS (txS x (turnsS n.toNat i.toNat).reverse ps) (txS y (turnsS n.toNat i.toNat).reverse qs) (ps.length + 1)) := by
  unfold collS
  by_cases h1 : climbE n i x ps = 0
  · by_cases h2 : climbE n i y qs = 0
    · by_cases h3 : climbS n i x ps = climbS n i y qs
      · rw [if_pos ⟨h1, h2, h3⟩]; exact .inr (.inr (.inr ⟨h1, h2, h3, rfl⟩))
      · rw [if_neg (fun h => h3 h.2.2)]; exact .inr (.inr (.inl ⟨h1, h2, h3, rfl⟩))
    · rw [if_neg (fun h => h2 h.2.1)]; exact .inr (.inl ⟨h1, h2, rfl⟩)
  · rw [if_neg (fun h => h1 h.1)]; exact .inl ⟨h1, rfl⟩
theorem upText_len {t : Nat × Nat} {p s : Sm} (hp : p.hash.length = 32) (hs : s.hash.length = 32) : (upText t p s).length ≤ 1000000 := by
  unfold upText sideA sideB
  by_cases h : t.2 = 1
  · rw [if_pos h, if_pos h]; have := nodeT_len hs hp; omega
  · rw [if_neg h, if_neg h]; have := nodeT_len hp hs; omega
theorem climbL_len : ∀ (ts : List (Nat × Nat)) (ps : List Sm) (s : Sm), s.hash.length = 32 → (∀ p ∈ ps, p.hash.length = 32) → ∀ y ∈ climbL s ts ps, y.1.length ≤ 1000000
  | [], _, _, _, _, y, hy => by simp [climbL] at hy
  | _ :: _, [], _, _, _, y, hy => by simp [climbL] at hy
  | t :: ts, p :: ps, s, hs, hp, y, hy => by
    simp only [climbL, List.mem_cons] at hy
    rcases hy with rfl | hy
    · exact upText_len (hp p (by simp)) hs
    · exact climbL_len ts ps (upSum t p s) (Sha.sum_length _) (fun q hq => hp q (by simp [hq])) y hy
theorem txS_len {x : Sh} {ts : List (Nat × Nat)} {ps : List Sm} (hf : fineB x = true) (hp : ∀ p ∈ ps, p.hash.length = 32) : ∀ t ∈ txS x ts ps, t.length ≤ 1000000 := by
  intro t ht
  unfold txS at ht
  obtain ⟨y, hy, rfl⟩ := List.mem_map.1 ht
  unfold wayS at hy
  rcases List.mem_cons.1 hy with rfl | hy
  · have := leafT_len x; show (leafT x).length ≤ _; omega
  · exact climbL_len ts ps _ (leafS_le hf).hash hp y hy

end Go.Proofs.YtobcfhninchnkaaDoor
