/- THE WALKS OF PACKAGE group, 3: Pow. -/
import Derived.Test.YthjglkpkeffmpaaDoorSqs
import Derived.Shelf.Abstract
import Derived.Shelf.RegionOpen
import Derived.OwnWalkIn
import Derived.TacticsInMore
import Derived.LoopNIn
import Derived.LoopIn
namespace Go.Proofs.YthjglkpkeffmpaaDoor
open Go.RowKit Go.Shelf
attribute [local go_sem] Oper.semAt_some wide_depth


/-- what the rounds have made of c -/
def pows (l : List (Nat × Bool)) : Nat := l.foldl (fun c p => if p.2 then c * p.1 % 2147483579 else c) 1

theorem pows_snoc (l : List (Nat × Bool)) (p : Nat × Bool) : pows (l ++ [p]) = if p.2 then pows l * p.1 % 2147483579 else pows l := by
  simp [pows, List.foldl_append]

theorem pows_lt (l : List (Nat × Bool)) : pows l < 2147483579 := by
  have key : ∀ (l : List (Nat × Bool)) c, c < 2147483579 → l.foldl (fun c p => if p.2 then c * p.1 % 2147483579 else c) c < 2147483579 := by
    intro l
    induction l with
    | nil => intro c h; exact h
    | cons p l ih =>
      intro c h
      refine ih _ ?_
      show (if p.2 = true then c * p.1 % 2147483579 else c) < 2147483579
      split
      · exact Nat.mod_lt _ (by omega)
      · exact h
  exact key l 1 (by omega)

theorem pows_from (f : Nat) : ∀ (a n c : Nat), n < 2 ^ f → c < 2147483579 → (sqs f a n).foldl (fun c p => if p.2 then c * p.1 % 2147483579 else c) c = c * Sq.E a n % 2147483579 := by
  induction f with
  | zero => intro a n c h hc; have : n = 0 := by simp at h; omega
            subst this; simp [sqs, Sq.E_zero, Nat.mod_eq_of_lt hc]
  | succ f ih =>
    intro a n c h hc
    by_cases h0 : n = 0
    · subst h0; simp [sqs, Sq.E_zero, Nat.mod_eq_of_lt hc]
    · have hn2 : n / 2 < 2 ^ f := by rw [Nat.pow_succ] at h; omega
      simp only [sqs, if_neg h0, List.foldl_cons]
      rw [ih _ _ _ hn2 (by split <;> first | exact hc | exact Nat.mod_lt _ (by omega))]
      have e : Sq.E a n = (if n % 2 = 1 then a else 1) * Sq.E (a * a % 2147483579) (n / 2) % 2147483579 := by
        have h2 : Sq.E a n = Sq.E a (2 * (n / 2) + n % 2) := by congr 1; omega
        rw [h2, Sq.E_add, Sq.E_mul, show Sq.E a 2 = a * a % 2147483579 by unfold Sq.E; rw [Nat.pow_two]]
        rcases Nat.mod_two_eq_zero_or_one n with e | e <;> rw [e]
        · rw [Sq.E_zero]; simp
        · rw [if_pos rfl, Nat.mul_comm, show Sq.E a 1 = a % 2147483579 by unfold Sq.E; rw [Nat.pow_one], Nat.mod_mul_mod]
      rw [e]
      by_cases hp : n % 2 = 1
      · simp only [hp, decide_true, if_true]
        rw [Nat.mod_mul_mod, Nat.mul_mod_mod, Nat.mul_assoc]
      · simp only [hp, decide_false, if_false, Bool.false_eq_true]
        rw [Nat.one_mul, Nat.mul_mod_mod]

theorem pows_sqs {f a n : Nat} (h : n < 2 ^ f) : pows (sqs f a n) = Sq.E a n := by
  unfold pows
  rw [pows_from f a n 1 h (by omega), Nat.one_mul, Nat.mod_eq_of_lt (Sq.E_lt _ _)]

set_option maxHeartbeats 400000 in
theorem pow_yes {a n : Int} (w : World) (h : elz a = true) :
    Calls Tryd.prog 12 #[.int .i64 a, .int .i64 n] w fun e w' => e = .returned (.tuple #[.int .i64 (Sq.pz a.toNat n), .int .i64 0]) ∧ Below w.heap.size w w' := by
  have H1 := Lib.hid fun w => valid_yes w h
  have hr := elz_range h
  obtain ⟨x, rfl⟩ := Int.eq_ofNat_of_zero_le (show 0 ≤ a by omega)
  rw [Int.toNat_natCast]
  clear h
  refine callsIn_wide (n := 3) |>.1 ?_
  refine callsIn_of_wp_marks Tryd.func12 rfl trivial ?_ rfl
  simp only [Tryd.ntmps12, List.size_toArray, List.length_cons, List.length_nil, Nat.reduceAdd, Nat.reduceSub, Array.replicate_succ, Array.replicate_zero, List.push_toArray, List.append_toArray, List.nil_append, List.cons_append]
  gi_wp2
  refine ⟨trivial, callsIn_wide.2 ((H1.out _).mono ?_)⟩
  rintro e w' ⟨rfl, rfl⟩
  gi_wp2
  refine ⟨trivial, callsIn_wide.2 ((least_one (w.heap.size + 1) n _ ?_).mono ?_)⟩
  · simp [go_sem]
  rintro e w' ⟨rfl, rfl⟩
  gi_wp2
  refine ⟨trivial, callsIn_wide.2 ((squares_calls _ _ _).mono ?_)⟩
  rintro e w' ⟨rfl, rfl⟩
  gi_wp2
  have hB0 : Below w.heap.size w ((((w.alloc (.cells #[.int .i64 1] 3)).alloc (.cells #[.int .i64 n] 3)).alloc (.cells #[.int .i64 x] 3)).alloc (.cells #[.int .i64 (Sq.lx n)] 3)) :=
    ((((Below.refl _ _).alloc (Nat.le_refl _) _).alloc (by simp) _).alloc (by simp; omega) _).alloc (by simp; omega) _
  have hc0 : ((((w.alloc (.cells #[.int .i64 1] 3)).alloc (.cells #[.int .i64 n] 3)).alloc (.cells #[.int .i64 x] 3)).alloc (.cells #[.int .i64 (Sq.lx n)] 3)).heap[w.heap.size]? = some (.cells #[.int .i64 (pows [] : Nat)] 3 (0, 0)) := by
    rw [heap_old (by simp +arith), heap_old (by simp +arith), heap_old (by simp +arith), heap_new (by simp)]; rfl
  have hI0 : SqsAt (w.heap.size + 1 + 1 + 1) (w.heap.size + 1 + 1) x (Sq.lx n) ((((w.alloc (.cells #[.int .i64 1] 3)).alloc (.cells #[.int .i64 n] 3)).alloc (.cells #[.int .i64 x] 3)).alloc (.cells #[.int .i64 (Sq.lx n)] 3)) := by
    exact ⟨by rw [heap_new (by simp)], by rw [heap_old (by simp +arith), heap_new (by simp)]⟩
  have hsz : ((((w.alloc (.cells #[.int .i64 1] 3)).alloc (.cells #[.int .i64 n] 3)).alloc (.cells #[.int .i64 x] 3)).alloc (.cells #[.int .i64 (Sq.lx n)] 3)).heap.size = w.heap.size + 4 := by simp
  generalize (((w.alloc (.cells #[.int .i64 1] 3)).alloc (.cells #[.int .i64 n] 3)).alloc (.cells #[.int .i64 x] 3)).alloc (.cells #[.int .i64 (Sq.lx n)] 3) = W0 at *
  have hlx := Sq.lx_lt n
  refine wpIn_range (gf := 46) (lb := #[.pointer (some ⟨w.heap.size + 1 + 1 + 1, 0, none⟩), .pointer (some ⟨w.heap.size + 1 + 1, 0, none⟩)]) rfl
    (enters_of Tryd.func46 (by kernel_rfl) rfl) (fun _ => rfl) (squares1_gives (w.heap.size + 1 + 1 + 1) (w.heap.size + 1 + 1) x (Sq.lx n) 31 (by omega) (by omega) (by omega) (by omega))
    (fun k hk => by omega) (fun k hk => by omega) (fun k => k = w.heap.size) (fun k hk => by omega) ?init
    (fun pre W => W.heap[w.heap.size]? = some (.cells #[.int .i64 (pows pre : Nat)] 3 (0, 0)) ∧ Below w.heap.size w W) (fun _ _ _ => False) ?hI (fun _ _ _ _ h _ => h)
    ⟨hc0, hB0⟩
    (fun p => { tmps := #[.int .i64 x, .int .i64 n, undef, undef, .pointer (some ⟨w.heap.size, 0, none⟩), .int .i64 0, .int .i64 p.1, .bool p.2,
          .int .i64 x, .bool true, .bool false, .int .i64 x, .int .i64 n, .slice (some ⟨w.heap.size + 1, 0, none⟩) 1 1,
          .int .i64 (Sq.lx n), .func (.func 46) #[] #[.pointer (some ⟨w.heap.size + 1 + 1 + 1, 0, none⟩), .pointer (some ⟨w.heap.size + 1 + 1, 0, none⟩)],
          .int .i64 p.1, .bool p.2, undef, undef, undef, undef, undef, undef], defers := [] }) ?assign ?body ?done ?stop
  case init =>
    intro W hW
    exact ⟨(hW.block _ (by omega) (fun h => h)).trans hI0.1, (hW.block _ (by omega) (fun h => h)).trans hI0.2⟩
  case hI =>
    rintro s A B ⟨hc, hB⟩ hch
    have hlt := lt_of_block hc
    refine ⟨(hch.block _ hlt (by omega)).trans hc, hB.trans (hch.below (by have := hB.size; omega) (fun k hk => by omega))⟩
  case assign =>
    intro l p W K hK
    gi_wp2
    exact hK
  case body =>
    rintro l pre ⟨b, bit⟩ rest W hx ⟨hc, hB⟩ hlt
    have hc1 := cell_of_one hc
    have hf1 := free_of_one hc
    have hs := pows_snoc pre (b, bit)
    have hb : b < 2147483579 := by
      have : ∀ f a n, a < 2147483579 → ∀ p ∈ sqs f a n, p.1 < 2147483579 := by
        intro f
        induction f with
        | zero => intro a n _ p hp; simp [sqs] at hp
        | succ f ih =>
          intro a n ha p hp
          simp only [sqs] at hp
          split at hp
          · simp at hp
          · rcases List.mem_cons.1 hp with rfl | hp
            · exact ha
            · exact ih _ _ (Nat.mod_lt _ (by omega)) p hp
      exact this 31 x (Sq.lx n) (by omega) (b, bit) (by rw [hx]; simp)
    have hp := pows_lt pre
    have hm := mul_bound (P := 2147483579) (a := pows pre) (b := b) (by omega) (by omega) (by omega) (by omega)
    cases bit
    · have HS : Hid (pows (pre ++ [(b, false)]) = pows pre) := hs
      clear hs hx hm
      gi_wp2
      exact ⟨Chg.refl _ _, by rw [HS.out]; exact hc, hB⟩
    · have HS : Hid (pows (pre ++ [(b, true)]) = pows pre * b % 2147483579) := hs
      have e1 : wrap64 ((pows pre : Int) * b) = pows pre * b := wrap64_id (by omega) (by omega)
      have e2 : ((pows pre : Int) * b).tmod 2147483579 = pows pre * b % 2147483579 := tmod_pos hm.1
      clear hs hx hm
      gi_wp2
      refine ⟨Chg.setCell' _ _ rfl, ?_, hB.setCell (Nat.le_refl _) _⟩
      rw [HS.out]
      simpa using one_setCell (u := .int .i64 ((pows pre : Int) * b % 2147483579)) hc
  case done =>
    rintro W ⟨hc, hB⟩ hlt hD
    have hc1 := cell_of_one hc
    have hf1 := free_of_one hc
    have hpz : pows (sqs 31 x (Sq.lx n)) = Sq.pz x n := by rw [pows_sqs (by omega), Sq.pz_E]
    have HP := Lib.hid hpz
    clear hpz
    gi_wp2
    have hD2 : (W.setCell ⟨w.heap.size, 0, none⟩ (.int .i64 (pows (sqs 31 x (Sq.lx n)) : Nat))).heap[W0.heap.size]? = some (.deferred (some [])) := (Below.heap_setCell _ _ _ _ (by simp; omega)).trans hD
    have hc2 := one_setCell (u := .int .i64 (pows (sqs 31 x (Sq.lx n)) : Nat)) hc
    have hB2 := hB.setCell (p := ⟨w.heap.size, 0, none⟩) (Nat.le_refl _) (.int .i64 (pows (sqs 31 x (Sq.lx n)) : Nat))
    generalize W.setCell ⟨w.heap.size, 0, none⟩ (.int .i64 (pows (sqs 31 x (Sq.lx n)) : Nat)) = W2 at *
    have hc3 : (W2.putObj W0.heap.size (.deferred none)).heap[w.heap.size]? = _ := (World.putObj_heap_other (by omega)).trans hc2
    have hc4 := cell_of_one hc3
    refine ⟨by simp, .inl ⟨_, _, rfl, run_takeDeferred hD2, ?_⟩⟩
    refine ⟨.tuple #[.int .i64 (pows (sqs 31 x (Sq.lx n)) : Nat), .int .i64 0], by simp [results, Tryd.results12, go_sem, hc4], ?_⟩
    rw [HP.out]
    exact ⟨rfl, hB2.trans (by exact ((Chg.refl (fun k => k = W0.heap.size) W2).putObj (.inl rfl) _).below (by have := hB2.size; omega) (fun k hk => by omega))⟩
  case stop =>
    intro c pre rest W _ h
    exact h.elim

theorem pow_no {a n : Int} (w : World) (h : elz a = false) :
    Calls Tryd.prog 12 #[.int .i64 a, .int .i64 n] w fun e w' => e = .returned (.tuple #[.int .i64 0, .int .i64 100]) ∧ Below w.heap.size w w' := by
  have H1 := Lib.hid fun w => valid_no w h
  clear h
  go_enter Tryd.func12, Tryd.ntmps12
  go_wp2_with fail
  refine (H1.out _).mono ?_
  rintro e w' ⟨rfl, rfl⟩
  go_wp2_with fail
  refine bodyPost_ret (v := .tuple #[.int .i64 0, .int .i64 100]) (by simp [results, Tryd.results12, go_sem]) rfl ⟨rfl, (Below.refl _ _).alloc (Nat.le_refl _) _⟩

end Go.Proofs.YthjglkpkeffmpaaDoor
