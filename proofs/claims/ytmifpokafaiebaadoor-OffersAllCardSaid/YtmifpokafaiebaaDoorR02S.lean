/- THE WALK OF acequiaref02.Sum. -/
import Derived.Test.YtmifpokafaiebaaDoorR02B
import Derived.Test.YtmifpokafaiebaaDoorR02P
namespace Go.Proofs.YtmifpokafaiebaaDoor
open Go.RowKit
set_option linter.unusedVariables false
set_option maxRecDepth 100000

theorem Chg.setRow {S : Nat → Prop} {A B : World} (h : Chg S A B) {g : Nat} (hg : S g ∨ A.heap.size ≤ g) (cs : Array Value) : Chg S A (B.setRow g cs) :=
  ⟨h.os, h.tape, h.output, by simpa [World.setRow] using h.size, fun k hk hn => (setRow_other B g k cs (fun e => by
    rcases hg with hg | hg
    · exact hn (e ▸ hg)
    · omega)).trans (h.block k hk hn)⟩
theorem u8s_all (l : List UInt8) : (u8s l).toArray.all (·.oneCell') = true := by
  rw [Array.all_eq_true_iff_forall_mem]
  intro v hv
  exact u8s_one _ v (by simpa using hv)
theorem flat_byte : ∀ (V : List Nat) (i : Nat), i < 4 * V.length → (V.flatMap (Sha.be 4)).getD i 0 = UInt8.ofNat (V.getD (i / 4) 0 / 2 ^ (24 - 8 * (i % 4)) % 256)
  | [], i, h => by simp at h
  | x :: xs, i, h => by
    have hb : Sha.be 4 x = [UInt8.ofNat (x / 2 ^ 24 % 256), UInt8.ofNat (x / 2 ^ 16 % 256), UInt8.ofNat (x / 2 ^ 8 % 256), UInt8.ofNat (x / 2 ^ 0 % 256)] := by
      simp [Sha.be, Nat.div_div_eq_div_mul]
    rw [List.flatMap_cons]
    by_cases hi : i < 4
    · rw [List.getD_eq_getElem?_getD, List.getElem?_append_left (by rw [Sha.be_length]; exact hi), hb, show i / 4 = 0 by omega]
      have : i = 0 ∨ i = 1 ∨ i = 2 ∨ i = 3 := by omega
      rcases this with rfl | rfl | rfl | rfl <;> rfl
    · have ih := flat_byte xs (i - 4) (by simp only [List.length_cons] at h; omega)
      rw [List.getD_eq_getElem?_getD, List.getElem?_append_right (by rw [Sha.be_length]; omega), Sha.be_length, ← List.getD_eq_getElem?_getD, ih, show (i - 4) % 4 = i % 4 by omega, show i / 4 = (i - 4) / 4 + 1 by omega, List.getD_cons_succ]
theorem flat_set (V : List Nat) (i : Nat) (hV : V.length = 8) (hi : i < 32) :
    (u8s ((V.flatMap (Sha.be 4)).take i ++ List.replicate (32 - i) 0)).set i (.int .u8 (((V.flatMap (Sha.be 4)).getD i 0).toNat : Nat)) = u8s ((V.flatMap (Sha.be 4)).take (i + 1) ++ List.replicate (32 - (i + 1)) 0) := by
  have hl : (V.flatMap (Sha.be 4)).length = 32 := by rw [Sha.flat_length, hV]
  generalize V.flatMap (Sha.be 4) = F at *
  have e : 32 - i = 32 - (i + 1) + 1 := by omega
  have e2 : F.take (i + 1) = F.take i ++ [F.getD i 0] := by
    rw [List.take_add_one, List.getD_eq_getElem?_getD, List.getElem?_eq_getElem (by omega)]; rfl
  rw [e, List.replicate_succ, e2]
  unfold u8s
  rw [List.map_append, List.set_append_right _ _ (by simp; omega), List.length_map, List.length_take, hl, Nat.min_eq_left (by omega), Nat.sub_self]
  simp
theorem u32s_all (l : List Nat) : (u32s l).toArray.all (·.oneCell') = true := by
  rw [Array.all_eq_true_iff_forall_mem]
  intro v hv
  exact u32s_one _ v (by simpa using hv)

set_option maxRecDepth 100000 in
set_option maxHeartbeats 1000000 in
theorem rsum_calls (p : Option Addr) (cap : Nat) (l : List UInt8) (w : World) (hcap : l.length ≤ cap) (hm : cap ≤ maxLen) (hl : l.length ≤ 2147483648) (hb : SB w p l) :
    Calls Tryd.prog 51 #[.slice p l.length cap] w fun e w' => e = .returned (.agg (u8s (Sha.sum l)).toArray) ∧ Up w w' := by
  have HB := Lib.hid hb
  clear hb
  obtain ⟨Z, hZ⟩ : ∃ Z, Z = (u32s Sha.S0).toArray := ⟨_, rfl⟩
  have HZ := Lib.hid hZ
  clear hZ
  go_enter Tryd.func51, Tryd.ntmps51
  go_wp2_with (first | (refine wpList_buildTo rfl 94 _ rfl (some 8) rfl Z (by rw [HZ.out]; kernel_rfl) ?_) | (refine wpList_named ?_; intro WA hWA; refine wpList_store_rowTo rfl 94 (.tmp 3) (.tmp 8) rfl rfl _ Z rfl rfl 94 _ (by rw [hWA]; exact heap_new (by simp)) (by rw [HZ.out]; kernel_rfl) (by rw [HZ.out]; kernel_rfl) (by rw [HZ.out]; kernel_rfl) ?_; refine wpList_named ?_; intro W1 hW1; have HA := Lib.hid hWA; have H1 := Lib.hid hW1; clear hWA hW1))
  obtain ⟨bd, hbd⟩ : ∃ bd, bd = w.heap.size := ⟨_, rfl⟩
  have hWA := HA.out
  have hW1 := H1.out
  have uA : Below (w.heap.size + 1) WA W1 := by rw [hW1]; exact below_setRow (Below.refl _ _) (Nat.le_refl _) _
  have s1 : W1.heap[bd + 1]? = some (.cells (u32s Sha.S0).toArray 94 (0, 0)) := by
    rw [hW1, hbd, setRow_heap _ _ _ _ 94 (0, 0) (by rw [hWA]; exact heap_new (by simp)), HZ.out]
  have d1 : W1.heap[bd]? = some (.cells (u8s (List.replicate 32 0)).toArray 47 (0, 0)) := by
    rw [uA.block bd (by omega), hWA, heap_old (by simp; omega), heap_new hbd]; rfl
  have u1 : Up w W1 := by rw [hW1, hWA]; exact below_setRow (((Up.refl w).alloc _).alloc _) (by omega) _
  have z1 : W1.heap.size = bd + 2 := by rw [hW1, hWA, hbd]; simp [World.setRow]
  rw [← hbd]
  have HS1 := Lib.hid s1
  have HD1 := Lib.hid d1
  have U1 := Lib.hid u1
  have HZ1 := Lib.hid z1
  have HBD := Lib.hid hbd
  have HB1 : Hid (SB W1 p l) := HB.out.kept fun b hb => u1.block b hb
  clear hW1 hWA HA H1 uA s1 d1 u1 z1 hbd
  refine (rpadded_calls p cap l W1 hcap hm hl HB1.out).mono ?_
  rintro e w2 ⟨v2, rfl, o2, u2⟩
  obtain ⟨b2, c2, rfl, hc21, hc22, hgb, sb2⟩ := o2.form2 (by simp [Sha.padded])
  rw [HZ1.out] at hgb
  have hX : ∃ q, (Sha.padded l).length = 64 * q ∧ q ≤ 33554434 := by
    have e : (Sha.padded l).length = l.length + 1 + Sha.gap l.length + 8 := by simp [Sha.padded, Sha.be_length]; omega
    refine ⟨(Sha.padded l).length / 64, ?_, ?_⟩
    · rw [e]; unfold Sha.gap; split <;> omega
    · rw [e]; unfold Sha.gap; split <;> omega
  obtain ⟨q, hq1, hq2⟩ := hX
  have U2 := Lib.hid u2
  have O2 := Lib.hid o2
  have SB2 := Lib.hid sb2
  have HQ := Lib.hid hq1
  have hS2 : Hid (w2.heap[bd + 1]? = some (.cells (u32s (Sha.blocks 0 Sha.S0 (Sha.padded l))).toArray 94 (0, 0))) := (u2.block _ (by rw [HZ1.out]; omega)).trans HS1.out
  have hZ2 : bd + 2 ≤ w2.heap.size := by have := u2.size; rw [HZ1.out] at this; exact this
  rw [hq1] at hc21
  rw [hq1]
  unfold maxLen at hc22
  clear u2 o2 sb2 hq1
  go_wp2_with fail
  go_loopw [5] (fun vi wq => ∃ k : Nat, k ≤ q ∧ vi = .int .i64 (64 * k) ∧ Hid (wq.heap[bd + 1]? = some (.cells (u32s (Sha.blocks k Sha.S0 (Sha.padded l))).toArray 94 (0, 0))) ∧ Hid (Chg (· = bd + 1) w2 wq))
    (fun vi _ => (64 * q - (intOf vi)).toNat)
  case atStart => exact ⟨0, by omega, rfl, hS2, Chg.refl _ _⟩
  case round =>
    obtain ⟨k, hk, rfl, HS, HC⟩ := hrel
    by_cases hlt : k < q
    · have hB2 := SB2.out
      have hlen := Sha.blocks_length k Sha.S0 (Sha.padded l) rfl
      obtain ⟨v0, v1, v2, v3, v4, v5, v6, v7, hV⟩ := len8 hlen
      have hsm := Sha.blocks_small k Sha.S0 (Sha.padded l) Sha.S0_small
      have hs := HS.out
      rw [hV] at hs hsm
      have HSM := Lib.hid hsm
      have HV := Lib.hid hV
      have hb2 : b2 < w2.heap.size := hB2.block (by rw [HQ.out]; omega)
      have hb2n : b2 ≠ bd + 1 := by omega
      have hbr : Bs wr b2 (0 + 64 * k) (((Sha.padded l).drop (64 * k)).take 64) := ((hB2.kept (HC.out.block b2 hb2 hb2n)).drop (64 * k)).take 64
      have hlt2 : (((Sha.padded l).drop (64 * k)).take 64).length = 64 := by rw [List.length_take, List.length_drop, HQ.out]; omega
      have hlb : bd + 1 < wr.drew.heap.size := lt_of_block (w := wr.drew) hs
      have hbl : b2 < wr.drew.heap.size := Nat.lt_of_lt_of_le hb2 HC.out.size
      have K0 : ∀ x : UpW wr.drew, x.w.cell? ⟨bd + 1, 0, none⟩ = some (.int .u32 v0) := fun x => (eight_of ((x.block hlb).trans hs) rfl).1
      have K1 : ∀ x : UpW wr.drew, x.w.cell? ⟨bd + 1, 1, none⟩ = some (.int .u32 v1) := fun x => (eight_of ((x.block hlb).trans hs) rfl).2.1
      have K2 : ∀ x : UpW wr.drew, x.w.cell? ⟨bd + 1, 2, none⟩ = some (.int .u32 v2) := fun x => (eight_of ((x.block hlb).trans hs) rfl).2.2.1
      have K3 : ∀ x : UpW wr.drew, x.w.cell? ⟨bd + 1, 3, none⟩ = some (.int .u32 v3) := fun x => (eight_of ((x.block hlb).trans hs) rfl).2.2.2.1
      have K4 : ∀ x : UpW wr.drew, x.w.cell? ⟨bd + 1, 4, none⟩ = some (.int .u32 v4) := fun x => (eight_of ((x.block hlb).trans hs) rfl).2.2.2.2.1
      have K5 : ∀ x : UpW wr.drew, x.w.cell? ⟨bd + 1, 5, none⟩ = some (.int .u32 v5) := fun x => (eight_of ((x.block hlb).trans hs) rfl).2.2.2.2.2.1
      have K6 : ∀ x : UpW wr.drew, x.w.cell? ⟨bd + 1, 6, none⟩ = some (.int .u32 v6) := fun x => (eight_of ((x.block hlb).trans hs) rfl).2.2.2.2.2.2.1
      have K7 : ∀ x : UpW wr.drew, x.w.cell? ⟨bd + 1, 7, none⟩ = some (.int .u32 v7) := fun x => (eight_of ((x.block hlb).trans hs) rfl).2.2.2.2.2.2.2
      have KC : Hid (∀ x : UpW wr.drew, Calls Tryd.prog 68 #[.agg (u32s [v0, v1, v2, v3, v4, v5, v6, v7]).toArray, .slice (some ⟨b2, 64 * k, none⟩) 64 (c2 - 64 * k)] x.w fun e w' => e = .returned (.agg (u32s (Sha.compress [v0, v1, v2, v3, v4, v5, v6, v7] (((Sha.padded l).drop (64 * k)).take 64))).toArray) ∧ Up x.w w') := fun x =>
        rblock_calls v0 v1 v2 v3 v4 v5 v6 v7 b2 (64 * k) (c2 - 64 * k) _ x.w hsm hlt2 (by omega) (by unfold maxLen; omega) (by have := hbr.kept (x.block hbl); rwa [Nat.zero_add] at this)
      obtain ⟨D, hD⟩ : ∃ D, D = (u32s (Sha.compress [v0, v1, v2, v3, v4, v5, v6, v7] (((Sha.padded l).drop (64 * k)).take 64))).toArray := ⟨_, rfl⟩
      rw [← hD] at KC
      have HD := Lib.hid hD
      have HS8 := Lib.hid hs
      clear hD hbr hlt2 hs hsm hV hB2
      have e64 : IntKind.i64.wrap (64 * (k : Int) + 64) = 64 * (k : Int) + 64 := IntWalk.i64_in _ (by omega)
      haveI := UpW.some_ wr.drew
      go_wp2_with fail
      refine wp_region_up_tail 7 (by kernel_rfl) (by kernel_rfl) ?_
      simp only [List.take_succ_cons, List.take_zero, List.drop_succ_cons, List.drop_zero]
      have f1 : (0 : Int) ≤ 64 * (k : Int) := by omega
      have f2 : (0 : Int) ≤ 64 * (k : Int) + 64 := by omega
      have f3 : 64 * (k : Int) + 64 ≤ c2 := by omega
      repeat (first | go_big_quiet_step (fail) | quiet_step ((go_at_call 68; exact Calls.quiet_up (KC.out _))))
      refine wpQuiet_nil ?_
      rintro w3 ⟨x, hx⟩
      have hx1 : Up wr w3 := by rw [hx]; exact ((Up.refl wr).drew).trans x.up
      have HX1 := Lib.hid hx1
      have hs3 : Hid (w3.heap[bd + 1]? = some (.cells (u32s [v0, v1, v2, v3, v4, v5, v6, v7]).toArray 94 (0, 0))) := by show _ = _; rw [hx, x.block hlb]; exact HS8.out
      clear hx hx1 KC K0 K1 K2 K3 K4 K5 K6 K7
      go_wp2_with (refine wpList_store_rowTo rfl 94 (.tmp 3) (.tmp 23) rfl rfl (bd + 1) D rfl rfl 94 _ hs3.out (by rw [HD.out, List.size_toArray, u32s_length, Sha.compress_length _ _ rfl]; kernel_rfl) (by rw [HD.out, List.size_toArray, List.size_toArray, u32s_length, u32s_length, Sha.compress_length _ _ rfl]; rfl) (by rw [HD.out]; exact u32s_all _) ?_; refine wpList_named ?_; intro W4 hW4; have H4 := Lib.hid hW4; clear hW4)
      refine ⟨⟨k + 1, by omega, by go_num, ?_, ?_⟩, by simp only [intOf]; omega⟩
      · show _ = _
        rw [H4.out, setRow_heap _ _ _ _ 94 (0, 0) hs3.out, HD.out, blocks_succ, HV.out]
      · show Chg _ _ _
        rw [H4.out]
        exact (HC.out.of_below HX1.out).setRow (.inl rfl) _
    · have hkq : k = q := by omega
      subst hkq
      obtain ⟨V, hV⟩ : ∃ V, V = Sha.blocks k Sha.S0 (Sha.padded l) := ⟨_, rfl⟩
      have hVl : V.length = 8 := by rw [hV]; exact Sha.blocks_length _ _ _ rfl
      have hVs : Sha.Small V := by rw [hV]; exact Sha.blocks_small _ _ _ Sha.S0_small
      have hfin : Sha.sum l = V.flatMap (Sha.be 4) := by
        rw [hV, Sha.sum, HQ.out, show 64 * k / 64 = k by omega]
      have hs := HS.out
      rw [← hV] at hs
      have HS8 := Lib.hid hs
      have HFIN := Lib.hid hfin
      have HVL := Lib.hid hVl
      have HVS := Lib.hid hVs
      have HC2 : Hid (Up w wr) := by
        show Below _ _ _
        have a : Up w w2 := Up.trans U1.out U2.out
        exact Below.trans a (HC.out.below a.size (fun b hb => by show ¬ b = bd + 1; have := HBD.out; omega))
      have HDD : Hid (wr.heap[bd]? = some (.cells (u8s (List.replicate 32 0)).toArray 47 (0, 0))) :=
        (HC.out.block bd (by omega) (by show ¬ bd = bd + 1; omega)).trans ((U2.out.block bd (by rw [HZ1.out]; omega)).trans HD1.out)
      have hwrz : bd + 2 ≤ wr.heap.size := Nat.le_trans hZ2 HC.out.size
      obtain ⟨Y, hY⟩ : ∃ Y, Y = (u8s (List.replicate 32 0)).toArray := ⟨_, rfl⟩
      have HY := Lib.hid hY
      clear hV hVl hVs hfin hs HS HC hlt hk hY
      go_wp2_with (first | (refine wpList_buildTo rfl 47 _ rfl (some 24) rfl Y (by rw [HY.out]; kernel_rfl) ?_) | (refine wpList_named ?_; intro WB hWB; refine wpList_store_rowTo rfl 47 (.tmp 6) (.tmp 24) rfl rfl _ Y rfl rfl 47 _ (by rw [hWB]; exact heap_new (by simp)) (by rw [HY.out]; kernel_rfl) (by rw [HY.out]; kernel_rfl) (by rw [HY.out]; exact u8s_all _) ?_; refine wpList_named ?_; intro W5 hW5; have HB5 := Lib.hid hWB; have H5 := Lib.hid hW5; clear hWB hW5))
      obtain ⟨bY, hbY⟩ : ∃ bY, bY = wr.heap.size := ⟨_, rfl⟩
      have hWB := HB5.out
      have hW5 := H5.out
      rw [← hbY]
      have uB : Up wr W5 := by rw [hW5, hWB]; exact below_setRow ((Up.refl wr).alloc _) (Nat.le_refl _) _
      have y5 : W5.heap[bY]? = some (.cells (u8s (List.replicate 32 0)).toArray 47 (0, 0)) := by
        rw [hW5, hbY, setRow_heap _ _ _ _ 47 (0, 0) (by rw [hWB]; exact heap_new rfl), HY.out]
      have s5 : W5.heap[bd + 1]? = some (.cells (u32s V).toArray 94 (0, 0)) := (uB.block _ (by omega)).trans HS8.out
      have d5 : W5.heap[bd]? = some (.cells (u8s (List.replicate 32 0)).toArray 47 (0, 0)) := (uB.block _ (by omega)).trans HDD.out
      have u5 : Up w W5 := Up.trans HC2.out uB
      have HF : Hid ((V.flatMap (Sha.be 4)).length = 32) := by show _ = _; rw [Sha.flat_length, HVL.out]
      have Y5 : Hid (W5.heap[bY]? = some (.cells (u8s ((V.flatMap (Sha.be 4)).take 0 ++ List.replicate (32 - 0) 0)).toArray 47 (0, 0))) := y5
      have S5 := Lib.hid s5
      have D5 := Lib.hid d5
      have U5 := Lib.hid u5
      have HBY := Lib.hid hbY
      have hb5 : bd + 2 ≤ bY := by omega
      have hb6 : bY < W5.heap.size := lt_of_block y5
      clear hWB hW5 uB y5 s5 d5 u5 HB5 H5 HDD HS8 hbY
      go_loopw [7] (fun vi wq => ∃ i : Nat, i ≤ 32 ∧ vi = .int .i64 i ∧ Hid (wq.heap[bY]? = some (.cells (u8s ((V.flatMap (Sha.be 4)).take i ++ List.replicate (32 - i) 0)).toArray 47 (0, 0))) ∧ Hid (Chg (· = bY) W5 wq))
        (fun vi _ => 32 - (intOf vi).toNat)
      case atStart => exact ⟨0, by omega, rfl, Y5, Chg.refl _ _⟩
      case round =>
        obtain ⟨i, hi, rfl, HI, HQ5⟩ := hrel
        by_cases hlt : i < 32
        · have hs6 : wr.heap[bd + 1]? = some (.cells (u32s V).toArray 94 (0, 0)) := (HQ5.out.block (bd + 1) (by omega) (by show ¬ bd + 1 = bY; omega)).trans S5.out
          have hcx := cell_u32s hs6 (i := i / 4) (by rw [HVL.out]; omega)
          have hbyte := flat_byte V i (by rw [HVL.out]; omega)
          have hxs := HVS.out.getD (i / 4)
          have hlen : ((V.flatMap (Sha.be 4)).take i ++ List.replicate (32 - i) 0).length = 32 := by rw [List.length_append, List.length_take, HF.out, List.length_replicate]; omega
          obtain ⟨old, hold⟩ := row_cell HI.out (i := i) (by rw [u8s_length, hlen]; exact hlt)
          have hfz := free_row HI.out i
          have hstep := flat_set V i HVL.out hlt
          generalize V.getD (i / 4) 0 = x at *
          have HBYTE := Lib.hid hbyte
          have HSTEP := Lib.hid hstep
          obtain ⟨s, hs⟩ : ∃ s, s = 24 - 8 * (i % 4) := ⟨_, rfl⟩
          have e1 : IntKind.i64.wrap (8 * ((i : Int) % 4)) = 8 * ((i : Int) % 4) := IntWalk.i64_in _ (by omega)
          have e2 : IntKind.i64.wrap (24 - 8 * ((i : Int) % 4)) = 24 - 8 * ((i : Int) % 4) := IntWalk.i64_in _ (by omega)
          have e3 : (24 - 8 * ((i : Int) % 4)).toNat = s := by omega
          have e4 : ((i : Int) / 4).toNat = i / 4 := by omega
          have p1 : (0 : Int) ≤ 24 - 8 * ((i : Int) % 4) := by omega
          have p2 : (0 : Int) ≤ (i : Int) / 4 := by omega
          have p3 : (i : Int) / 4 < 8 := by omega
          have hval : ((x : Int) / 2 ^ s % 256) = (((UInt8.ofNat (x / 2 ^ s % 256)).toNat : Nat) : Int) := by
            rw [UInt8.toNat_ofNat', Nat.mod_mod]; norm_cast
          have HVAL := Lib.hid hval
          have HSS := Lib.hid hs
          clear hs6 hlen hbyte hstep hval hs
          go_wp2_with fail
          refine ⟨⟨i + 1, by omega, by go_num, ?_, HQ5.out.setCell (.inl rfl) _⟩, by simp [intOf]; omega⟩
          show _ = _
          rw [HVAL.out, heap_setCell_same _ bY _ _ 47 _ HI.out, ← HSTEP.out, HBYTE.out, ← HSS.out]
          simp
        · have hi32 : i = 32 := by omega
          subst hi32
          have hy : wr.heap[bY]? = some (.cells (u8s (Sha.sum l)).toArray 47 (0, 0)) := by
            rw [HI.out, HFIN.out, List.take_of_length_le (by rw [HF.out]; omega)]; simp
          have hd : wr.heap[bd]? = some (.cells (u8s (List.replicate 32 0)).toArray 47 (0, 0)) := (HQ5.out.block bd (by omega) (by show ¬ bd = bY; omega)).trans D5.out
          obtain ⟨D, hD⟩ : ∃ D, D = (u8s (Sha.sum l)).toArray := ⟨_, rfl⟩
          rw [← hD] at hy
          have hDs : D.size = 32 := by rw [hD, List.size_toArray, u8s_length, Sha.sum_length]
          have hDc : D.all (·.oneCell') = true := by rw [hD]; exact u8s_all _
          have hu : Up w wr := Below.trans U5.out (HQ5.out.below U5.out.size (fun b hb => by show ¬ b = bY; have := HBD.out; omega))
          have HYY := Lib.hid hy
          have HDD := Lib.hid hd
          have HDs := Lib.hid hDs
          have HDc := Lib.hid hDc
          have HD := Lib.hid hD
          have HU := Lib.hid hu
          clear hy hd hDs hDc hD hu HI HQ5
          go_wp2_with (first | refine wpList_load_row rfl 47 (.tmp 6) rfl bY (by simp [Act.eval]) 47 D (0, 0) _ HYY.out rfl rfl (by rw [HDs.out]; rfl) ?_ | refine wpList_store_rowTo rfl 47 (.tmp 2) (.tmp 41) rfl rfl bd D rfl rfl 47 _ HDD.out (by rw [HDs.out]; rfl) (by rw [HDs.out]; rfl) HDc.out ?_)
          refine bodyPost_ret (results_cell_row rfl _ _ bd _ D (0, 0) _ rfl (setRow_heap _ _ _ _ _ _ HDD.out) rfl rfl (by rw [HDs.out]; rfl)) rfl ?_
          exact ⟨by rw [HD.out], below_setRow HU.out (by rw [HBD.out]; exact Nat.le_refl _) _⟩

end Go.Proofs.YtmifpokafaiebaaDoor
