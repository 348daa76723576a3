/- THE WALK OF acequiaref02.block. -/
import Derived.Test.YtmifpokafaiebaaDoorR02N
import Derived.Test.YtmifpokafaiebaaDoorQT
import Derived.Great.BuildSlice
import Derived.Deep.DeepMust
namespace Go.Proofs.YtmifpokafaiebaaDoor
open Go.RowKit
set_option linter.unusedVariables false
set_option maxRecDepth 100000

theorem one8 (c0 c1 c2 c3 c4 c5 c6 c7 : Int) : (#[Value.int .u32 c0, .int .u32 c1, .int .u32 c2, .int .u32 c3, .int .u32 c4, .int .u32 c5, .int .u32 c6, .int .u32 c7] : Array Value).all (·.oneCell') = true := by
  rw [Array.all_eq_true_iff_forall_mem]
  intro v hv
  simp only [List.mem_toArray, List.mem_cons, List.not_mem_nil, or_false] at hv
  rcases hv with rfl | rfl | rfl | rfl | rfl | rfl | rfl | rfl
  all_goals rfl

theorem xor_max (e : Nat) (he : e < 4294967296) : 4294967295 ^^^ e = 4294967295 - e := by
  have := congrArg BitVec.toNat (BitVec.allOnes_xor (x := BitVec.ofNat 32 e))
  simpa [BitVec.toNat_xor, BitVec.toNat_not, BitVec.toNat_allOnes, Nat.mod_eq_of_lt he] using this

theorem rp_val {v7 v4 v5 v6 xk xw : Nat} (h4 : v4 < 4294967296) (h5 : v5 < 4294967296) (h6 : v6 < 4294967296) :
    (((v7 : Int) + bits BinOp.xor IntKind.u32 (bits BinOp.xor IntKind.u32 (Sha.rot 6 v4 : Nat) (Sha.rot 11 v4 : Nat)) (Sha.rot 25 v4 : Nat) + bits BinOp.xor IntKind.u32 (bits BinOp.and IntKind.u32 (v4 : Int) (v5 : Int)) (bits BinOp.and IntKind.u32 (bits BinOp.xor IntKind.u32 IntKind.u32.max (v4 : Int)) (v6 : Int)) + (xk : Int) + (xw : Int)) % 4294967296) =
    ((Sha.ad (Sha.ad (Sha.ad (Sha.ad v7 (Sha.bs1 v4)) (Sha.ch v4 v5 v6)) xk) xw : Nat) : Int) := by
  have hm : (IntKind.u32.max : Int) = ((4294967295 : Nat) : Int) := rfl
  have r : ∀ k, Sha.rot k v4 < 4294967296 := fun k => Sha.rot_lt h4
  rw [hm, u32_xor_nat 4294967295 v4 (by omega) h4, xor_max v4 h4, u32_and_nat _ _ h4 h5, u32_and_nat _ _ (by omega) h6, u32_xor_nat _ _ (Sha.and_lt h5) (Sha.and_lt h6), ch_alt v4 v5 v6 h4 h5 h6,
    u32_xor_nat _ _ (r 6) (r 11), u32_xor_nat _ _ (Sha.xor_lt (r 6) (r 11)) (r 25)]
  unfold Sha.ad Sha.bs1
  generalize Sha.rot 6 v4 ^^^ Sha.rot 11 v4 ^^^ Sha.rot 25 v4 = p
  generalize Sha.ch v4 v5 v6 = q
  omega

theorem rq_val {v0 v1 v2 : Nat} (h0 : v0 < 4294967296) (h1 : v1 < 4294967296) (h2 : v2 < 4294967296) :
    ((bits BinOp.xor IntKind.u32 (bits BinOp.xor IntKind.u32 (Sha.rot 2 v0 : Nat) (Sha.rot 13 v0 : Nat)) (Sha.rot 22 v0 : Nat) + bits BinOp.xor IntKind.u32 (bits BinOp.xor IntKind.u32 (bits BinOp.and IntKind.u32 (v0 : Int) (v1 : Int)) (bits BinOp.and IntKind.u32 (v0 : Int) (v2 : Int))) (bits BinOp.and IntKind.u32 (v1 : Int) (v2 : Int))) % 4294967296) = ((Sha.ad (Sha.bs0 v0) (Sha.mj v0 v1 v2) : Nat) : Int) := by
  have r : ∀ k, Sha.rot k v0 < 4294967296 := fun k => Sha.rot_lt h0
  rw [u32_and_nat _ _ h0 h1, u32_and_nat _ _ h0 h2, u32_and_nat _ _ h1 h2, u32_xor_nat _ _ (Sha.and_lt h1) (Sha.and_lt h2), u32_xor_nat _ _ (Sha.xor_lt (Sha.and_lt h1) (Sha.and_lt h2)) (Sha.and_lt h2), mj_alt v0 v1 v2 h0 h1 h2,
    u32_xor_nat _ _ (r 2) (r 13), u32_xor_nat _ _ (Sha.xor_lt (r 2) (r 13)) (r 22), ad_val]
  rfl

set_option maxRecDepth 100000 in
set_option maxHeartbeats 1000000 in
theorem rblock_calls (a0 a1 a2 a3 a4 a5 a6 a7 bb o cap : Nat) (blk : List UInt8) (w : World) (hsm : Sha.Small [a0, a1, a2, a3, a4, a5, a6, a7]) (hl : blk.length = 64) (hcap : 64 ≤ cap) (hm : cap ≤ maxLen) (hb : Bs w bb o blk) :
    Calls Tryd.prog 68 #[.agg (u32s [a0, a1, a2, a3, a4, a5, a6, a7]).toArray, .slice (some ⟨bb, o, none⟩) 64 cap] w fun e w' => e = .returned (.agg (u32s (Sha.compress [a0, a1, a2, a3, a4, a5, a6, a7] blk)).toArray) ∧ Up w w' := by
  unfold maxLen at hm
  have HB := Lib.hid hb
  have HL2 := Lib.hid hl
  clear hb hl
  obtain ⟨Z, hZ⟩ : ∃ Z, Z = (u32s (List.replicate 64 0)).toArray := ⟨_, rfl⟩
  have HZ := Lib.hid hZ
  clear hZ
  go_enter Tryd.func68, Tryd.ntmps68
  go_wp2_with (first | (refine wpList_buildTo rfl 113 _ rfl (some 22) rfl Z (by rw [HZ.out]; kernel_rfl) ?_) | (refine wpList_named ?_; intro WA hWA; refine wpList_store_rowTo rfl 113 (.tmp 5) (.tmp 22) rfl rfl _ Z rfl rfl 113 _ (by rw [hWA]; exact heap_new (by simp)) (by rw [HZ.out]; kernel_rfl) (by rw [HZ.out]; kernel_rfl) (by rw [HZ.out]; kernel_rfl) ?_; refine wpList_named ?_; intro W1 hW1))
  obtain ⟨bS, hbS⟩ : ∃ bS, bS = w.heap.size := ⟨_, rfl⟩
  obtain ⟨bw, hbw⟩ : ∃ bw, bw = w.heap.size + 1 + 1 := ⟨_, rfl⟩
  have f1 : W1.heap[bw]? = some (.cells (u32s (Sha.words 0 blk ++ List.replicate 64 0)).toArray 113 (0, 0)) := by
    rw [hW1, hbw, setRow_heap _ _ _ _ 113 (0, 0) (by rw [hWA]; exact heap_new (by simp)), HZ.out]; rfl
  have uA : Below bw WA W1 := by rw [hW1, hbw]; exact below_setRow (Below.refl _ _) (Nat.le_refl _) _
  have s1 : W1.heap[bS]? = some (.cells (u32s [a0, a1, a2, a3, a4, a5, a6, a7]).toArray 94 (0, 0)) := by
    rw [uA.block bS (by omega), hWA, heap_old (by simp; omega), heap_old (by simp; omega), heap_new hbS]
  have r1 : W1.heap[bS + 1]? = some (.cells #[Value.int .u32 0, Value.int .u32 0, Value.int .u32 0, Value.int .u32 0, Value.int .u32 0, Value.int .u32 0, Value.int .u32 0, Value.int .u32 0] 94 (0, 0)) := by
    rw [uA.block (bS + 1) (by omega), hWA, heap_old (by simp; omega), heap_new (by simp; omega)]
  have c1 : Up w W1 := by rw [hW1, hWA]; exact below_setRow ((((Up.refl w).alloc _).alloc _).alloc _) (by omega) _
  have z1 : W1.heap.size = bw + 1 := by rw [hW1, hbw, hWA]; simp [World.setRow]
  rw [← hbw, ← hbS]
  have hbb : bb < bS := by
    have := HB.out 0 (by rw [HL2.out]; omega)
    rw [hbS]; exact block_lt_of_cell this
  have hbw1 : bw = bS + 2 := by omega
  have HB1 : Hid (∀ wr, Chg (· = bw) W1 wr → Bs wr bb o blk) := fun wr hc => (HB.out.kept (c1.block bb (by omega))).kept (hc.block bb (by omega) (by omega))
  have HBW := Lib.hid hbw1
  have HBS := Lib.hid hbS
  have HS1 := Lib.hid s1
  have HR1 := Lib.hid r1
  clear hW1 hWA uA hbw hbS s1 r1 hbw1
  go_loopw [6] (fun v wr => ∃ k : Nat, k ≤ 16 ∧ v = .int .i64 k ∧ wr.heap[bw]? = some (.cells (u32s (Sha.words k blk ++ List.replicate (64 - k) 0)).toArray 113 (0, 0)) ∧ Chg (· = bw) W1 wr ∧ wr.heap.size = bw + 1)
    (fun v _ => 16 - (intOf v).toNat)
  case atStart => exact ⟨0, by omega, rfl, f1, Chg.refl _ _, z1⟩
  case round =>
    obtain ⟨k, hk, rfl, hw, hc, hz⟩ := hrel
    by_cases hlt : k < 16
    · have HW := Lib.hid hw
      have HZ2 := Lib.hid hz
      have HC := Lib.hid hc
      have HS2 := Lib.hid (set_pad (Sha.words k blk) (64 - k) (Sha.word ((blk.drop (4 * k)).take 4)) (by omega))
      have hwd := Lib.hid (words_succ k blk)
      clear hw hz hc
      go_wp2_with fail
      refine (rword_calls bb (o + 4 * k) 4 (cap - 4 * k) ((blk.drop (4 * k)).take 4) wr ?_ ?_ ?_).mono ?_
      · have := HL2.out; simp; omega
      · omega
      · exact ((HB1.out wr HC.out).drop (4 * k)).take 4
      rintro e w' ⟨rfl, m, hw'⟩
      have hh : w'.heap = wr.heap := by rw [hw']; rfl
      have HC' : Hid (Chg (· = bw) W1 w') := by show Chg _ _ _; rw [hw']; exact HC.out.drewN _
      have hw1 : w'.heap[bw]? = some (.cells (u32s (Sha.words k blk ++ List.replicate (64 - k) 0)).toArray 113 (0, 0)) := by rw [hh]; exact HW.out
      have HZ3 : Hid (w'.heap.size = bw + 1) := by show _ = _; rw [hh]; exact HZ2.out
      have hlen : (Sha.words k blk ++ List.replicate (64 - k) 0).length = 64 := by simp [Sha.words_length]; omega
      have hcell := cell_u32s hw1 (i := k) (by omega)
      have hfree := free_row hw1 k
      have HW1 := Lib.hid fun u => set_u32s hw1 k u
      generalize (Sha.words k blk ++ List.replicate (64 - k) 0).getD k 0 = old at hcell
      clear hw1 hlen hw' hh HC HW HZ2
      generalize Sha.word ((blk.drop (4 * k)).take 4) = u at *
      go_wp2_with fail
      refine ⟨⟨k + 1, by omega, by go_num, ?_, HC'.out.setCell (.inl rfl) _, by simpa [World.setCell] using HZ3.out⟩, by simp [intOf]; omega⟩
      have h2 := HS2.out
      rw [Sha.words_length] at h2
      rw [HW1.out, hwd.out, h2, show 64 - (k + 1) = 64 - k - 1 by omega]
    · have hk16 : k = 16 := by omega
      subst hk16
      have HW0 : Hid (wr.heap[bw]? = some (.cells (u32s (Sha.sched (16 - 16) (Sha.words 16 blk) ++ List.replicate (64 - 16) 0)).toArray 113 (0, 0))) := hw
      have HZ0 := Lib.hid hz
      have hsw := Lib.hid (Sha.words_small 16 blk)
      have hlw := Lib.hid (Sha.words_length 16 blk)
      obtain ⟨W0, HWW⟩ : ∃ W0, Hid (W0 = Sha.words 16 blk) := ⟨_, rfl⟩
      have HWE := HWW.out
      rw [← HWE] at HW0 hsw hlw
      clear HWE
      clear hw hz hk hlt HB HB1
      rw [show ((16 : Nat) : Int) = 16 from rfl]
      go_wp2
      go_loopw [7, 8, 9] (fun v _ _ wq => ∃ t : Nat, 16 ≤ t ∧ t ≤ 64 ∧ v = .int .i64 t ∧ wq.heap[bw]? = some (.cells (u32s (Sha.sched (t - 16) W0 ++ List.replicate (64 - t) 0)).toArray 113 (0, 0)) ∧ Chg (· = bw) W1 wq ∧ wq.heap.size = bw + 1)
        (fun v _ _ _ => 64 - (intOf v).toNat)
      case atStart => exact ⟨16, by omega, by omega, rfl, HW0.out, hc, HZ0.out⟩
      case round =>
        obtain ⟨t, ht1, ht2, rfl, hw, hc2, hz⟩ := hrel
        by_cases hlt : t < 64
        · have hll : (Sha.sched (t - 16) W0).length = t := by rw [Sha.sched_length, hlw.out]; omega
          have hpl : (Sha.sched (t - 16) W0 ++ List.replicate (64 - t) 0).length = 64 := by simp [hll]; omega
          have hsm2 := (Sha.sched_small (t - 16) W0 hsw.out)
          have get : ∀ j, j < t → (Sha.sched (t - 16) W0 ++ List.replicate (64 - t) 0).getD j 0 = (Sha.sched (t - 16) W0).getD j 0 := fun j hj => by
            rw [List.getD_eq_getElem?_getD, List.getD_eq_getElem?_getD, List.getElem?_append_left (by omega)]
          have g15 := cell_u32s hw (i := t - 15) (by omega)
          have g2 := cell_u32s hw (i := t - 2) (by omega)
          have g16 := cell_u32s hw (i := t - 16) (by omega)
          have g7 := cell_u32s hw (i := t - 7) (by omega)
          have gt := cell_u32s hw (i := t) (by omega)
          have fz := free_row hw t
          rw [get _ (by omega)] at g15 g2 g16 g7
          have b15 := Lib.hid (hsm2.getD (t - 15))
          have b2 := Lib.hid (hsm2.getD (t - 2))
          have b16 := Lib.hid (hsm2.getD (t - 16))
          have b7 := Lib.hid (hsm2.getD (t - 7))
          have HN : Hid (Sha.wnext (Sha.sched (t - 16) W0) t = Sha.ad (Sha.ad (Sha.ad ((Sha.sched (t - 16) W0).getD (t - 16) 0) (Sha.sg0 ((Sha.sched (t - 16) W0).getD (t - 15) 0))) ((Sha.sched (t - 16) W0).getD (t - 7) 0)) (Sha.sg1 ((Sha.sched (t - 16) W0).getD (t - 2) 0))) := rfl
          have HW1 := Lib.hid hw
          have HLL := Lib.hid hll
          generalize (Sha.sched (t - 16) W0 ++ List.replicate (64 - t) 0).getD t 0 = xt at *
          generalize (Sha.sched (t - 16) W0).getD (t - 15) 0 = x15 at *
          generalize (Sha.sched (t - 16) W0).getD (t - 2) 0 = x2 at *
          generalize (Sha.sched (t - 16) W0).getD (t - 16) 0 = x16 at *
          generalize (Sha.sched (t - 16) W0).getD (t - 7) 0 = x7 at *
          have HZ2 := Lib.hid hz
          have HC2 := Lib.hid hc2
          clear hw hz hll hpl hsm2 get hc2
          go_wp2_with fail
          have e16 : IntKind.i64.wrap ((t : Int) - 16) = (t : Int) - 16 := IntWalk.i64_in _ (by omega)
          have e7 : IntKind.i64.wrap ((t : Int) - 7) = (t : Int) - 7 := IntWalk.i64_in _ (by omega)
          have p16 : (0 : Int) ≤ (t : Int) - 16 := by omega
          have p7 : (0 : Int) ≤ (t : Int) - 7 := by omega
          have q16 : (16 : Int) ≤ (t : Int) := by omega
          have q7 : (7 : Int) ≤ (t : Int) := by omega
          have l16 : (t : Int) - 16 < 64 := by omega
          have l7 : (t : Int) - 7 < 64 := by omega
          have n16 : ((t : Int) - 16).toNat = t - 16 := by omega
          have n7 : ((t : Int) - 7).toNat = t - 7 := by omega
          have R7 : Hid (∀ w, Calls Tryd.prog 73 #[.int .u32 x15, .int .i64 7] w fun e w' => e = .returned (.int .u32 (Sha.rot 7 x15 : Nat)) ∧ ∃ m, w' = w.drewN m) := fun w => ror_calls 7 x15 w (by omega) (by omega) b15.out
          have R18 : Hid (∀ w, Calls Tryd.prog 73 #[.int .u32 x15, .int .i64 18] w fun e w' => e = .returned (.int .u32 (Sha.rot 18 x15 : Nat)) ∧ ∃ m, w' = w.drewN m) := fun w => ror_calls 18 x15 w (by omega) (by omega) b15.out
          have R17 : Hid (∀ w, Calls Tryd.prog 73 #[.int .u32 x2, .int .i64 17] w fun e w' => e = .returned (.int .u32 (Sha.rot 17 x2 : Nat)) ∧ ∃ m, w' = w.drewN m) := fun w => ror_calls 17 x2 w (by omega) (by omega) b2.out
          have R19 : Hid (∀ w, Calls Tryd.prog 73 #[.int .u32 x2, .int .i64 19] w fun e w' => e = .returned (.int .u32 (Sha.rot 19 x2 : Nat)) ∧ ∃ m, w' = w.drewN m) := fun w => ror_calls 19 x2 w (by omega) (by omega) b2.out
          refine wp_region_drew_tail 29 (by kernel_rfl) (by kernel_rfl) ?_
          simp only [List.take_succ_cons, List.take_zero, List.drop_succ_cons, List.drop_zero]
          repeat (quiet_step ((go_at_call 73; with_reducible (first | exact Calls.quiet_of (R7.out _) | exact Calls.quiet_of (R18.out _) | exact Calls.quiet_of (R17.out _) | exact Calls.quiet_of (R19.out _)))))
          refine wpQuiet_nil ?_
          rintro wd ⟨nd, hwd⟩
          have hh : wd.heap = wr.heap := by rw [hwd]; rfl
          have HC3 : Hid (Chg (· = bw) W1 wd) := by show Chg _ _ _; rw [hwd]; exact HC2.out.drewN _
          have HZ3 : Hid (wd.heap.size = bw + 1) := by show _ = _; rw [hh]; exact HZ2.out
          have hw1 := HW1.out
          rw [← hh] at hw1
          replace gt : wd.cell? ⟨bw, t, none⟩ = some (.int .u32 xt) := by rw [hwd]; exact gt
          replace fz : wd.frozen? ⟨bw, t, none⟩ = false := by rw [hwd]; exact fz
          have HW : Hid (∀ u : Nat, (wd.setCell ⟨bw, t, none⟩ (.int .u32 u)).heap[bw]? = some (.cells (u32s ((Sha.sched (t - 16) W0 ++ List.replicate (64 - t) 0).set t u)).toArray 113 (0, 0))) := fun u => set_u32s hw1 t u
          clear hwd hh hw1 e16 e7 p16 p7 q16 q7 l16 l7 n16 n7 g16 g7 g15 g2
          go_wp2_with fail
          rw [wnext_val b15.out b2.out, ← HN.out]
          refine ⟨⟨t + 1, by omega, by omega, by go_num, ?_, HC3.out.setCell (.inl rfl) _, by simpa [World.setCell] using HZ3.out⟩, by simp [intOf]; omega⟩
          have h2 := set_pad (Sha.sched (t - 16) W0) (64 - t) (Sha.wnext (Sha.sched (t - 16) W0) t) (by omega)
          rw [HLL.out] at h2
          have h3 := Sha.sched_succ (t - 16) W0
          rw [HLL.out] at h3
          rw [HW.out, h2, show t + 1 - 16 = t - 16 + 1 by omega, h3, show 64 - (t + 1) = 64 - t - 1 by omega]
        · have ht64 : t = 64 := by omega
          subst ht64
          have HW1 : Hid (wr.heap[bw]? = some (.cells (u32s (Sha.sched 48 W0)).toArray 113 (0, 0))) := by
            have := hw
            simp only [show 64 - 64 = 0 from rfl, List.replicate_zero, List.append_nil, show 64 - 16 = 48 from rfl] at this
            exact this
          have HC2 := Lib.hid hc2
          have HZ2 := Lib.hid hz
          have hws := Lib.hid (Sha.sched_small 48 W0 hsw.out)
          have hwl : Hid ((Sha.sched 48 W0).length = 64) := by show _ = _; rw [Sha.sched_length, hlw.out]
          have HFIN : Hid (Sha.compress [a0, a1, a2, a3, a4, a5, a6, a7] blk = List.zipWith Sha.ad [a0, a1, a2, a3, a4, a5, a6, a7] (Sha.rounds (Sha.sched 48 W0) 64 [a0, a1, a2, a3, a4, a5, a6, a7])) := by
            show _ = _; rw [Sha.compress, ← HWW.out]
          generalize Sha.sched 48 W0 = W at *
          clear hw hz hc2 ht1 ht2 hlt hc HW0 HZ0 hsw hlw HWW f1
          rw [show ((64 : Nat) : Int) = 64 from rfl]
          obtain ⟨D, hD⟩ : ∃ D, D = (u32s Sha.K).toArray := ⟨_, rfl⟩
          have HD := Lib.hid hD
          clear hD
          go_wp2_with fail
          refine (rnumbers_calls wr).mono ?_
          rintro e w3 ⟨rfl, u3⟩
          rw [← HD.out]
          have HU3 := Lib.hid u3
          clear u3
          obtain ⟨bk, hbk⟩ : ∃ bk, bk = w3.heap.size := ⟨_, rfl⟩
          have HBK := Lib.hid hbk
          clear hbk
          go_wp2_with (refine wpList_named ?_; intro WA hWA; refine wpList_store_rowTo rfl 113 (.tmp 10) (.tmp 78) rfl rfl _ D rfl rfl 113 _ (by rw [hWA]; exact heap_new rfl) (by rw [HD.out]; kernel_rfl) (by rw [HD.out]; kernel_rfl) (by rw [HD.out]; kernel_rfl) ?_; refine wpList_named ?_; intro W3 hW3)
          have uA : Below w3.heap.size w3 W3 := by rw [hW3, hWA]; exact below_setRow ((Below.refl _ _).alloc (Nat.le_refl _) _) (Nat.le_refl _) _
          have k3 : W3.heap[bk]? = some (.cells (u32s Sha.K).toArray 113 (0, 0)) := by
            rw [hW3, HBK.out, setRow_heap _ _ _ _ 113 (0, 0) (by rw [hWA]; exact heap_new rfl), HD.out]
          have U3 : Up wr W3 := HU3.out.trans uA
          have w3' : W3.heap[bw]? = some (.cells (u32s W).toArray 113 (0, 0)) := (U3.block bw (by rw [HZ2.out]; omega)).trans HW1.out
          have s3 : W3.heap[bS]? = some (.cells (u32s [a0, a1, a2, a3, a4, a5, a6, a7]).toArray 94 (0, 0)) := (U3.block bS (by rw [HZ2.out]; have := HBW.out; omega)).trans ((HC2.out.block bS (by rw [z1]; have := HBW.out; omega) (by have := HBW.out; omega)).trans HS1.out)
          have r3 : W3.heap[bS + 1]? = some (.cells #[Value.int .u32 0, Value.int .u32 0, Value.int .u32 0, Value.int .u32 0, Value.int .u32 0, Value.int .u32 0, Value.int .u32 0, Value.int .u32 0] 94 (0, 0)) := (U3.block (bS + 1) (by rw [HZ2.out]; have := HBW.out; omega)).trans ((HC2.out.block (bS + 1) (by rw [z1]; have := HBW.out; omega) (by have := HBW.out; omega)).trans HR1.out)
          have UW : Up w W3 := (Below.trans c1 (HC2.out.below (n := w.heap.size) c1.size (fun k hk => by show ¬ k = bw; have := HBW.out; have := HBS.out; omega)) : Up w wr) |> fun h => Up.trans h U3
          obtain ⟨k0, k1, k2, k3', k4, k5, k6, k7⟩ := eight_of s3 rfl
          simp only [List.getD_cons_zero, List.getD_cons_succ] at k0 k1 k2 k3' k4 k5 k6 k7
          have HK3 := Lib.hid k3
          have HW3 := Lib.hid w3'
          have HS3 := Lib.hid s3
          have HR3 := Lib.hid r3
          have HUW := Lib.hid UW
          rw [← HBK.out]
          clear hW3 hWA uA k3 U3 w3' s3 r3 UW HU3 HD HW1 HC2 HZ2 HS1 HR1 c1 z1 HBK
          go_quiet (fail)
          clear k0 k1 k2 k3' k4 k5 k6 k7
          go_wp2_with fail
          refine wp_named ?_
          intro W4 hW4
          have D0 : Hid (∃ n, W4 = W3.drewN n) := ⟨_, hW4⟩
          clear hW4
          go_loopw [11, 12, 13, 14, 15, 16, 17, 18, 19, 20, 21] (fun va vb vc vd ve vf vg vh vt _ _ wq => ∃ (t v0 v1 v2 v3 v4 v5 v6 v7 : Nat), t ≤ 64 ∧ vt = .int .i64 t ∧ va = .int .u32 v0 ∧ vb = .int .u32 v1 ∧ vc = .int .u32 v2 ∧ vd = .int .u32 v3 ∧ ve = .int .u32 v4 ∧ vf = .int .u32 v5 ∧ vg = .int .u32 v6 ∧ vh = .int .u32 v7 ∧ Hid (Sha.rounds W t [a0, a1, a2, a3, a4, a5, a6, a7] = [v0, v1, v2, v3, v4, v5, v6, v7]) ∧ Hid (∃ n, wq = W3.drewN n))
            (fun _ _ _ _ _ _ _ _ vt _ _ _ => 64 - (intOf vt).toNat)
          case atStart => exact ⟨0, _, _, _, _, _, _, _, _, by omega, rfl, rfl, rfl, rfl, rfl, rfl, rfl, rfl, rfl, rfl, D0⟩
          case round =>
            obtain ⟨t, v0, v1, v2, v3, v4, v5, v6, v7, ht, rfl, rfl, rfl, rfl, rfl, rfl, rfl, rfl, rfl, HV, HQ⟩ := hrel
            have hsv : Sha.Small [v0, v1, v2, v3, v4, v5, v6, v7] := by rw [← HV.out]; exact Sha.rounds_small W t _ hsm
            have b0 := Lib.hid (hsv v0 (by simp))
            have b1 := Lib.hid (hsv v1 (by simp))
            have b2 := Lib.hid (hsv v2 (by simp))
            have b3 := Lib.hid (hsv v3 (by simp))
            have b4 := Lib.hid (hsv v4 (by simp))
            have b5 := Lib.hid (hsv v5 (by simp))
            have b6 := Lib.hid (hsv v6 (by simp))
            have b7 := Lib.hid (hsv v7 (by simp))
            clear hsv
            have hh : wr.heap = W3.heap := by obtain ⟨n, e⟩ := HQ.out; rw [e]; rfl
            by_cases hlt : t < 64
            · have hw1 := HW3.out
              have hk1 := HK3.out
              rw [← hh] at hw1 hk1
              have cw := cell_u32s hw1 (i := t) (by rw [hwl.out]; exact hlt)
              have ck := cell_u32s hk1 (i := t) (by show t < 64; exact hlt)
              have HKW : Hid (Sha.rounds W (t + 1) [a0, a1, a2, a3, a4, a5, a6, a7] = Sha.rnd [v0, v1, v2, v3, v4, v5, v6, v7] (Sha.K.getD t 0) (W.getD t 0)) := by show _ = _; rw [Sha.rounds, HV.out]
              generalize W.getD t 0 = xw at *
              generalize Sha.K.getD t 0 = xk at *
              have R6 : Hid (∀ w, Calls Tryd.prog 73 #[.int .u32 v4, .int .i64 6] w fun e w' => e = .returned (.int .u32 (Sha.rot 6 v4 : Nat)) ∧ ∃ m, w' = w.drewN m) := fun w => ror_calls 6 v4 w (by omega) (by omega) b4.out
              have R11 : Hid (∀ w, Calls Tryd.prog 73 #[.int .u32 v4, .int .i64 11] w fun e w' => e = .returned (.int .u32 (Sha.rot 11 v4 : Nat)) ∧ ∃ m, w' = w.drewN m) := fun w => ror_calls 11 v4 w (by omega) (by omega) b4.out
              have R25 : Hid (∀ w, Calls Tryd.prog 73 #[.int .u32 v4, .int .i64 25] w fun e w' => e = .returned (.int .u32 (Sha.rot 25 v4 : Nat)) ∧ ∃ m, w' = w.drewN m) := fun w => ror_calls 25 v4 w (by omega) (by omega) b4.out
              have R2 : Hid (∀ w, Calls Tryd.prog 73 #[.int .u32 v0, .int .i64 2] w fun e w' => e = .returned (.int .u32 (Sha.rot 2 v0 : Nat)) ∧ ∃ m, w' = w.drewN m) := fun w => ror_calls 2 v0 w (by omega) (by omega) b0.out
              have R13 : Hid (∀ w, Calls Tryd.prog 73 #[.int .u32 v0, .int .i64 13] w fun e w' => e = .returned (.int .u32 (Sha.rot 13 v0 : Nat)) ∧ ∃ m, w' = w.drewN m) := fun w => ror_calls 13 v0 w (by omega) (by omega) b0.out
              have R22 : Hid (∀ w, Calls Tryd.prog 73 #[.int .u32 v0, .int .i64 22] w fun e w' => e = .returned (.int .u32 (Sha.rot 22 v0 : Nat)) ∧ ∃ m, w' = w.drewN m) := fun w => ror_calls 22 v0 w (by omega) (by omega) b0.out
              clear hw1 hk1 hh
              go_wp2_with fail
              go_quiet ((go_at_call 73; with_reducible (first | exact Calls.quiet_of (R6.out _) | exact Calls.quiet_of (R11.out _) | exact Calls.quiet_of (R25.out _))))
              go_wp2_with fail
              rw [rp_val b4.out b5.out b6.out]
              obtain ⟨p, HP⟩ : ∃ p, Hid (p = Sha.ad (Sha.ad (Sha.ad (Sha.ad v7 (Sha.bs1 v4)) (Sha.ch v4 v5 v6)) xk) xw) := ⟨_, rfl⟩
              rw [← HP.out]
              refine (R2.out _).mono ?_
              rintro e w5 ⟨rfl, hw5⟩
              have H5 : Hid (∃ n, w5 = W3.drewN n) := by obtain ⟨m, rfl⟩ := hw5; obtain ⟨n, e⟩ := HQ.out; exact ⟨_, by rw [e, World.drewN_drewN, World.drewN_drewN]⟩
              clear hw5 cw ck
              go_wp2_with fail
              refine (R13.out _).mono ?_
              rintro e w6 ⟨rfl, hw6⟩
              have H6 : Hid (∃ n, w6 = W3.drewN n) := by obtain ⟨m, rfl⟩ := hw6; obtain ⟨n, e⟩ := H5.out; exact ⟨_, by rw [e, World.drewN_drewN]⟩
              clear hw6
              go_wp2_with fail
              refine (R22.out _).mono ?_
              rintro e w7 ⟨rfl, hw7⟩
              have H7 : Hid (∃ n, w7 = W3.drewN n) := by obtain ⟨m, rfl⟩ := hw7; obtain ⟨n, e⟩ := H6.out; exact ⟨_, by rw [e, World.drewN_drewN]⟩
              clear hw7
              go_wp2_with fail
              rw [rq_val b0.out b1.out b2.out]
              obtain ⟨q, HQ2⟩ : ∃ q, Hid (q = Sha.ad (Sha.bs0 v0) (Sha.mj v0 v1 v2)) := ⟨_, rfl⟩
              rw [← HQ2.out]
              simp only [ad_val]
              refine ⟨⟨t + 1, Sha.ad p q, v0, v1, v2, Sha.ad v3 p, v4, v5, v6, by omega, by go_num, rfl, rfl, rfl, rfl, rfl, rfl, rfl, rfl, ?_, H7⟩, by simp [intOf]; omega⟩
              show _ = _
              rw [HKW.out, HP.out, HQ2.out]
              rfl
            · have ht64 : t = 64 := by omega
              subst ht64
              have hs1 := HS3.out
              have hr1 := HR3.out
              rw [← hh] at hs1 hr1
              obtain ⟨k0, k1, k2, k3', k4, k5, k6, k7⟩ := eight_of hs1 rfl
              simp only [List.getD_cons_zero, List.getD_cons_succ] at k0 k1 k2 k3' k4 k5 k6 k7
              have HR4 := Lib.hid hr1
              have HUQ : Hid (Up w wr) := by
                obtain ⟨n, e⟩ := HQ.out
                show Up w wr
                rw [e]
                exact Up.drewN HUW.out n
              clear hs1 hr1 hh hlt ht
              go_wp2_with (refine wpList_store_rowTo (t := 94) rfl 94 (.tmp 4) (.tmp 190) rfl rfl (bS + 1) _ rfl rfl _ HR4.out (by show _ = some 8; kernel_rfl) rfl (one8 _ _ _ _ _ _ _ _) ?_)
              refine bodyPost_ret (results_cell_row rfl _ _ (bS + 1) _ _ (0, 0) _ rfl (setRow_heap _ _ _ _ _ _ HR4.out) rfl rfl ?cc) rfl ?_
              case cc => exact (show (Tryd.prog.info? 94).map (·.size) = some 8 by kernel_rfl)
              refine ⟨?_, ?_⟩
              · rw [HFIN.out, HV.out]; rfl
              · exact below_setRow HUQ.out (by rw [HBS.out]; omega) _

end Go.Proofs.YtmifpokafaiebaaDoor
