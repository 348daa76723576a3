/- THE WALKS OF PACKAGE group, 2: least, squares (an iterator that keeps its state in two cells). -/
import Derived.Test.YthjglkpkeffmpaaDoorGrp
import Derived.Test.YthjglkpkeffmpaaDoorIter
import Derived.Shelf.Abstract
import Derived.Shelf.RegionOpen
import Derived.OwnWalkIn
import Derived.TacticsInMore
import Derived.LoopNIn
import Derived.LoopIn
namespace Go.Proofs.YthjglkpkeffmpaaDoor
open Go.RowKit Go.Shelf
attribute [local go_sem] Oper.semAt_some wide_depth

theorem i64_and1 (k : Nat) (hk : k < 9223372036854775808) : bits BinOp.and IntKind.i64 (k : Int) 1 = ((k % 2 : Nat) : Int) := by
  have h1 : (BitVec.ofInt 64 (k : Int)).toNat = k := by
    rw [BitVec.ofInt_natCast, BitVec.toNat_ofNat]; exact Nat.mod_eq_of_lt (by omega)
  show IntKind.i64.wrap ((BitVec.ofInt 64 (k : Int) &&& BitVec.ofInt 64 1).toNat : Int) = _
  rw [BitVec.toNat_and, h1, show (BitVec.ofInt 64 1).toNat = 1 from rfl, Nat.and_one_is_mod, IntKind.wrap_i64]
  omega

/-- what squares hands out -/
def sqs : Nat → Nat → Nat → List (Nat × Bool)
  | 0, _, _ => []
  | f + 1, a, n => if n = 0 then [] else (a, decide (n % 2 = 1)) :: sqs f (a * a % 2147483579) (n / 2)

theorem sqs_zero (f a : Nat) : sqs f a 0 = [] := by cases f <;> simp [sqs]
theorem sqs_succ {f a n : Nat} (hn : n ≠ 0) (hf : n < 2 ^ f) : ∃ g, f = g + 1 ∧ n / 2 < 2 ^ g ∧ sqs f a n = (a, decide (n % 2 = 1)) :: sqs g (a * a % 2147483579) (n / 2) := by
  cases f with
  | zero => simp at hf; omega
  | succ g => exact ⟨g, rfl, by rw [Nat.pow_succ] at hf; omega, by simp [sqs, hn]⟩

abbrev sqsEncs (p : Nat × Bool) : Array Value := #[.int .i64 p.1, .bool p.2]

/-- the two cells of the closure -/
def SqsAt (bn ba a n : Nat) (W : World) : Prop :=
  W.heap[bn]? = some (.cells #[.int .i64 n] 3 (0, 0)) ∧ W.heap[ba]? = some (.cells #[.int .i64 a] 3 (0, 0))

theorem sqsAt_step {bn ba b k : Nat} {W : World} (hne : bn ≠ ba) (hn : W.heap[bn]? = some (.cells #[.int .i64 k] 3 (0, 0))) (ha : W.heap[ba]? = some (.cells #[.int .i64 b] 3 (0, 0))) :
    SqsAt bn ba (b * b % 2147483579) (k / 2) ((W.setCell ⟨ba, 0, none⟩ (.int .i64 (↑b * ↑b % 2147483579))).setCell ⟨bn, 0, none⟩ (.int .i64 (↑k / 2))) := by
  have e1 : ((b * b % 2147483579 : Nat) : Int) = ↑b * ↑b % 2147483579 := by simp
  have e2 : ((k / 2 : Nat) : Int) = ↑k / 2 := by simp
  unfold SqsAt
  rw [e1, e2]
  refine ⟨one_setCell ((Below.heap_setCell _ _ _ _ hne).trans hn), (Below.heap_setCell _ _ _ _ (Ne.symm hne)).trans (one_setCell ha)⟩

theorem sqsAt_chg {bn ba : Nat} (W : World) (u v : Value) : Chg (fun k => k = bn ∨ k = ba) W ((W.setCell ⟨ba, 0, none⟩ u).setCell ⟨bn, 0, none⟩ v) :=
  (Chg.setCell' W u (.inr rfl)).trans (Chg.setCell' _ v (.inl rfl))

set_option maxHeartbeats 400000 in
theorem squares1_gives (bn ba a n f : Nat) (hne : bn ≠ ba) (ha : a < 2147483579) (hn : n < 2 ^ f) (hn2 : n < 2147483648) :
    IterGives Tryd.prog 46 #[.pointer (some ⟨bn, 0, none⟩), .pointer (some ⟨ba, 0, none⟩)] sqsEncs (fun k => k = bn ∨ k = ba) (fun k => k = bn ∨ k = ba) (sqs f a n) (SqsAt bn ba a n) := by
  intro m l J Jx W hI0 hJ hJx hY h0
  refine callsIn_of_wp Tryd.func46 rfl trivial ?_ rfl
  simp only [Tryd.ntmps46, List.size_toArray, List.length_cons, List.length_nil, Nat.reduceAdd, Nat.reduceSub, Array.replicate_succ, Array.replicate_zero, List.push_toArray, List.append_toArray, List.nil_append, List.cons_append]
  gi_wp2
  gi_loopw [4] (fun _ wr => ∃ (pre : List (Nat × Bool)) (g b k : Nat), sqs f a n = pre ++ sqs g b k ∧ k < 2 ^ g ∧ b < 2147483579 ∧ k < 2147483648 ∧ SqsAt bn ba b k wr ∧ J pre wr)
    (fun _ wr => (intOf ((wr.cell? ⟨bn, 0, none⟩).getD undef)).toNat)
  case atStart => exact ⟨[], f, a, n, rfl, hn, ha, hn2, hI0, h0⟩
  case round =>
    obtain ⟨pre, g, b, k, hx, hk, hb, hk2, ⟨hcn, hca⟩, hJs⟩ := hrel
    have cn := cell_of_one hcn
    have ca := cell_of_one hca
    have fn' := free_of_one hcn
    have fa := free_of_one hca
    by_cases hk0 : k = 0
    · subst hk0
      rw [sqs_zero, List.append_nil] at hx
      have HX := Lib.hid hx
      clear hx
      gi_wp2
      go_end0
      exact ⟨⟨_, rfl⟩, .inl (by rw [HX.out]; exact hJs)⟩
    · obtain ⟨g', hg, hk', hs⟩ := sqs_succ (a := b) hk0 hk
      have HX : Hid (sqs f a n = pre ++ (b, decide (k % 2 = 1)) :: sqs g' (b * b % 2147483579) (k / 2)) := by rw [hx, hs]; rfl
      obtain ⟨fn, tmps, assign, body, hy, hR⟩ := hY pre (b, decide (k % 2 = 1)) _ wr HX.out hJs
      clear hx hs hg hI0 h0 hJs cn ca fn' fa
      have hd : decide ((0 : Int) < k) = true := by simp; omega
      have hm := mul_bound (P := 2147483579) (a := b) (b := b) (by omega) (by omega) (by omega) (by omega)
      have e1 : wrap64 ((b : Int) * b) = b * b := wrap64_id (by omega) (by omega)
      have e2 : ((b : Int) * b).tmod 2147483579 = ((b * b % 2147483579 : Nat) : Int) := by rw [tmod_pos hm.1]; simp
      clear hm
      obtain ⟨bit, hb1, hbit⟩ : ∃ bit : Bool, decide (k % 2 = 1) = bit ∧ bits BinOp.and IntKind.i64 (k : Int) 1 = if bit then 1 else 0 := by
        refine ⟨_, rfl, ?_⟩
        rw [i64_and1 k (by omega)]; split <;> simp_all <;> omega
      rw [hb1] at hy hR HX
      clear hb1
      cases bit
      all_goals
        simp only [if_true, if_false, Bool.false_eq_true] at hbit
        have cn := cell_of_one hcn
        have ca := cell_of_one hca
        gi_wp2
        refine hR.mono ?_
        rintro e W3 (⟨rfl, hJ3, hsz, hk3⟩ | ⟨rfl, hJx3⟩)
        · have hcn3 := (hk3 bn (.inl rfl)).trans hcn
          have hca3 := (hk3 ba (.inr rfl)).trans hca
          clear hk3 cn ca
          have cn3 := cell_of_one hcn3
          have ca3 := cell_of_one hca3
          have fn3 := free_of_one hcn3
          have fa3 := free_of_one hca3
          have hS3 := sqsAt_step hne hcn3 hca3
          gi_wp2
          refine ⟨⟨_, g', b * b % 2147483579, k / 2, by rw [HX.out, List.append_cons], hk', Nat.mod_lt _ (by omega), by omega, hS3, hJ _ _ _ hJ3 (sqsAt_chg _ _ _)⟩, ?_⟩
          rw [cell_of_one hS3.1, cell_of_one hcn]
          simp only [Option.getD_some, intOf]
          omega
        · gi_wp2
          refine bodyPost_ret (results_none rfl _ _ _) rfl ?_
          exact ⟨⟨_, rfl⟩, .inr ⟨_, _, by rw [HX.out, List.append_cons], hJx3⟩⟩

/-! ### least, squares -/
theorem least_num {x r : Int} (h : x.tmod 1073741789 = r) : -1073741789 < r ∧ r < 1073741789 ∧ r % 1073741789 = ((Sq.lx x : Nat) : Int) := by
  have h1 := Int.mul_tdiv_add_tmod x 1073741789
  have h2 := Int.tmod_lt_of_pos x (show (0 : Int) < 1073741789 by omega)
  have h3 := Int.lt_tmod_of_pos x (show (0 : Int) < 1073741789 by omega)
  unfold Sq.lx
  rw [h] at h1 h2 h3
  generalize x.tdiv 1073741789 = q at h1
  omega

set_option maxHeartbeats 400000 in
theorem least_one (b : Nat) (x : Int) (w : World) (hc : w.cell? ⟨b, 0, none⟩ = some (.int .i64 x)) :
    Calls Tryd.prog 35 #[.slice (some ⟨b, 0, none⟩) 1 1] w fun e w' => e = .returned (.int .i64 (Sq.lx x)) ∧ w = w' := by
  obtain ⟨r, hr⟩ : ∃ r, x.tmod 1073741789 = r := ⟨_, rfl⟩
  obtain ⟨h1, h2, h3⟩ := least_num hr
  have H3 := Lib.hid h3
  clear h3
  go_enter Tryd.func35, Tryd.ntmps35
  go_wp2
  go_loop [3, 8] (fun v3 v8 => (v3 = .int .i64 1 ∧ v8 = .int .i64 0) ∨ (v3 = .int .i64 (r % 1073741789) ∧ v8 = .int .i64 1)) (fun _ i => 1 - (intOf i).toNat)
  case atStart => exact .inl ⟨rfl, rfl⟩
  case round =>
    rcases hrel with ⟨rfl, rfl⟩ | ⟨rfl, rfl⟩
    · go_wp2
      go_round
      case rel => exact .inr ⟨by simp, rfl⟩
      case measure => simp [intOf]
    · go_wp2
      go_ret
      rw [← H3.out]
      exact ⟨rfl, rfl⟩

theorem squares_calls (a n : Int) (w : World) :
    Calls Tryd.prog 34 #[.int .i64 a, .int .i64 n] w fun e w' => e = .returned (.func (.func 46) #[] #[.pointer (some ⟨w.heap.size + 1, 0, none⟩), .pointer (some ⟨w.heap.size, 0, none⟩)]) ∧
      (w.alloc (.cells #[.int .i64 a] 3)).alloc (.cells #[.int .i64 n] 3) = w' := by
  go_enter Tryd.func34, Tryd.ntmps34
  go_wp2
  go_ret
  exact ⟨rfl, rfl⟩

end Go.Proofs.YthjglkpkeffmpaaDoor
