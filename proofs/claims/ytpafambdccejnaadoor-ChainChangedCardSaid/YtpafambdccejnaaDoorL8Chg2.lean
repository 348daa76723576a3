/- THE WALK, ITS MAIN ROAD, OF acequialaw08.ChainChanged. -/
import Derived.Test.YtpafambdccejnaaDoorL8Changed
namespace Go.Proofs.YtpafambdccejnaaDoor
open Go.RowKit
set_option linter.unusedVariables false

theorem own_caps {w0 W : World} {base n c : Nat} {p : Option Addr} {ls : List Lk} (hn : n = ls.length) (hp : 0 < n) (hown : OwnK w0 W base (.slice p n c) ls) : n ≤ c ∧ c ≤ maxLen := by
  obtain ⟨css, hF, hown⟩ := hown
  rcases hown.2 with ⟨e, hz⟩ | ⟨g, cap, cur, e, hbg, hg, hnc, hcm, hcs, htake⟩
  · omega
  injection e with e1 e2 e3
  subst e2 e3
  exact ⟨hnc, hcm⟩

set_option maxRecDepth 100000 in
set_option maxHeartbeats 4000000 in
theorem changed_main (p : Option Addr) (n c at' : Nat) (D2 : Array Value) (ls : List Lk) (x : Lk) (w : World) (ha : In w p n c ls) (hxw : x.wf) (hxv : LkV w D2.toList x) (htab : Tabs w) (hfe : fewB ls = true) (hpos : 0 < n) (hdl : x.data.length ≤ 300) (hk : chk ls = 0) (hat : at' < 256) :
    Calls Tryd.prog 6 #[.slice p n c, .int .u8 (at' : Nat), .agg D2] w fun e w' => e = .returned (.bool true) ∧ Up w w' := by
  have HT := Lib.hid htab
  have FA := Lib.hid fun W (hu : Up w W) => few_calls p n c ls W ha.len ha.wf (ha.links.up hu) ha.cap ha.max
  have hxp := hxw.prev
  have hxl := hxv.len hxp
  have hDs : D2.size = 35 := by simpa using hxl
  have HXV := Lib.hid hxv
  obtain ⟨px, cx, hcs, hx1, hx2, hx3⟩ := hxv
  have HCS := Lib.hid hcs
  have HDS := Lib.hid hDs
  have c34 := lk_c3 hxp hcs
  obtain ⟨xl, hxl2⟩ : ∃ k, k = x.data.length := ⟨_, rfl⟩
  rw [← hxl2] at c34
  have C34 := Lib.hid c34
  have HXL := Lib.hid hxl2
  rw [hfe] at FA
  obtain ⟨hf, hf16⟩ := fewB_few ha.wf hfe
  have hxo : x.ok := ⟨hxw.node, hxw.no, hxw.prev, hdl⟩
  have CK := Lib.hid fun W (hu : Up w W) => chCheck_calls p n c ls W ha.len hf (ha.links.up hu) (htab.up hu) ha.cap ha.max
  rw [hk] at CK
  have hn16 : n ≤ 16 := by rw [ha.len]; exact hf16
  obtain ⟨k, hkk⟩ : ∃ k, k = at' % n := ⟨_, rfl⟩
  have hkn : k < n := by rw [hkk]; exact Nat.mod_lt _ hpos
  have em : ((at' : Int)).tmod (n : Int) = (k : Nat) := by rw [hkk, Int.ofNat_tmod]
  have em2 : ((at' : Int)) % (n : Int) = (k : Nat) := by rw [hkk]; simp
  have hkl : k < ls.length := by rw [← ha.len]; exact hkn
  obtain ⟨D, hD⟩ := ha.links.fn
  have S1 := Lib.hid (DFn.size hf hD k hkl)
  obtain ⟨b, o, rfl, hdd⟩ := hD (by rintro rfl; simp at hkl)
  obtain ⟨hlv, hrg⟩ := hdd k hkl
  have SL := Lib.hid fun (W : World) (hu : Up w W) => sameLink_calls (D k) D2 ls[k] x W (hlv.up hu) (HXV.out.up hu) (hf.2 _ (List.getElem_mem hkl)) hxo
  have G1 := Lib.hid fun (W : World) (hu : Up w W) => rangeAt_up hrg hu
  obtain ⟨rs, hrs⟩ : ∃ rs, rs = decide (ls[k] = x) := ⟨_, rfl⟩
  rw [← hrs] at SL
  have HRS := Lib.hid hrs
  -- the copy with the link replaced
  have hml : (ls.set k x).length = ls.length := List.length_set
  have hfm : Few (ls.set k x) := ⟨by rw [hml]; exact hf.1, fun y hy => by
    rcases List.mem_or_eq_of_mem_set hy with h | h
    · exact hf.2 y h
    · rw [h]; exact hxo⟩
  obtain ⟨css, hFl, hSr⟩ := ha.links.src2 (fun y hy => (hf.2 y hy).prev) c
  rw [← ha.len] at hSr
  have HFL := Lib.hid hFl
  have HSR := Lib.hid hSr
  have CM := Lib.hid fun q c' W (hu : Up w W) (hl : Links W q (ls.set k x)) (h1 : n ≤ c') (h2 : c' ≤ maxLen) => chCheck_calls q n c' (ls.set k x) W (by rw [hml]; exact ha.len) hfm hl (htab.up hu) h1 h2
  have CL := Lib.hid fun q c' W (hu : Up w W) (hl : Links W q (ls.set k x)) => clash_calls (some ⟨b, o, none⟩) q (k + 1) (k + 1) c c' (ls.take (k + 1)) ((ls.set k x).take (k + 1)) W (by rw [List.length_take]; omega) (by rw [List.length_take, hml]; omega) (hf.take _) (hfm.take _) ((ha.links.up hu).take _) (hl.take _) (htab.up hu)
  have HLAW : Hid (ls[k] ≠ x → chk (ls.set k x) = 0 → k + 1 < n → clashB (ls.take (k + 1)) ((ls.set k x).take (k + 1)) = true) := fun h1 h2 h3 =>
    changed_law hf hxo (by rw [← ha.len]; exact h3) hk h2 h1
  have HSET := Lib.hid fun W base q c' (hb : w.heap.size ≤ base) (hk0 : ∀ j, j < w.heap.size → W.heap[j]? = w.heap[j]?) (hown : OwnK w W base (.slice q n c') ls) => own_set ha.len hb hk0 hown (fun y hy => (hf.2 y hy).prev) hxp hkn HXV.out
  have HPR := Lib.hid fun y hy => (hf.2 y hy).prev
  have HN := Lib.hid ha.len
  have hcc := ha.cap
  have hD2c : D2.all (·.oneCell') = true := by have := all_oneCell_toArray HXV.out.one; simpa using this
  have HD2c := Lib.hid hD2c
  have d1 : ((n : Int) == 0) = false := by simp; omega
  have d2 : decide ((300 : Int) < (xl : Int)) = false := by simp; omega
  clear ha hxw htab hxp hxl hDs hcs hx1 hx2 hx3 c34 hxl2 hfe hf hf16 hk hxo hkk hD hdd hlv hrg hrs hml hfm hFl hSr hdl hD2c
  go_enter Tryd.func6, Tryd.ntmps6
  go_wp2_with fail
  refine calls_nm ?_
  intro W1 hW1
  obtain ⟨bx, hbx⟩ : ∃ b, b = w.heap.size := ⟨_, rfl⟩
  rw [← hbx]
  have U1 : Hid (Up w W1) := by show Up w W1; rw [hW1]; exact (Up.refl w).alloc _
  have X1 : Hid (W1.heap[bx]? = some (.cells D2 37 (0, 0))) := by show _ = _; rw [hW1, heap_new hbx]
  clear hW1 hbx
  refine (sane08_calls _ (HT.out.up U1.out)).mono ?_
  rintro e w2 ⟨rfl, u2⟩
  have U2 : Hid (Up w w2) := Up.trans U1.out u2
  have X2 : Hid (w2.heap[bx]? = some (.cells D2 37 (0, 0))) := (u2.block bx (lt_of_block X1.out)).trans X1.out
  have k34 : w2.cell? ⟨bx, 34, none⟩ = some (.slice px xl cx) := by rw [cell_of_row w2 bx 34 _ _ _ X2.out]; exact C34.out
  clear u2
  go_wp2_with fail
  refine (FA.out w2 U2.out).mono ?_
  rintro e w3 ⟨rfl, rfl⟩
  go_wp2_with fail
  refine (CK.out w2 U2.out).mono ?_
  rintro e w4 ⟨rfl, u4⟩
  have U4 : Hid (Up w w4) := Up.trans U2.out u4
  have X4 : Hid (w4.heap[bx]? = some (.cells D2 37 (0, 0))) := (u4.block bx (lt_of_block X2.out)).trans X2.out
  clear u4 k34
  haveI := UpW.some_ w4.drew
  have hn0 : (0 : Int) < n := by omega
  have hnz : ¬ ((n : Int) = 0) := by omega
  have hat0 : (0 : Int) ≤ (at' : Int) := by omega
  have hat1 : (at' : Int) ≤ 255 := by omega
  go_wp2_with fail
  refine wp_region_up_k (by kernel_rfl) (by kernel_rfl) ?_
  intro R hR
  have hi0 : (0 : Int) ≤ k := by omega
  have hi1 : (k : Int) < n := by omega
  repeat (first | ((with_reducible show wpQuiet _ _ _ _ (Oper.mk _ (Op.load _ (Operand.tmp 37)) _ _ _ _ :: _) _); refine wpQuiet_load_arr (by rfl) 37 (.tmp 37) rfl b (o + k * 35) rfl (D k) _ (fun w' hw' => by (obtain ⟨z, rfl⟩ := hw'; exact G1.out _ (Up.trans U4.out (Up.trans (Up.refl w4).drew z.up)))) rfl rfl (by rw [S1.out]; rfl) ?_) | ((with_reducible show wpQuiet _ _ _ _ (Oper.mk _ (Op.load _ (Operand.tmp 5)) _ _ _ _ :: _) _); refine wpQuiet_load_arr (by rfl) 37 (.tmp 5) rfl bx 0 rfl D2 _ (fun w' hw' => by (obtain ⟨z, rfl⟩ := hw'; exact rangeAt_row ((z.block (lt_of_block (w := w4.drew) X4.out)).trans X4.out))) rfl rfl (by rw [HDS.out]; rfl) ?_) | go_big_quiet_step (fail) | quiet_step ((go_at_call 18; with_reducible exact Calls.quiet_up (SL.out _ (Up.trans U4.out (Up.trans (Up.refl w4).drew (UpW.up _)))))))
  refine wpQuiet_nil (hR _ ?_)
  clear hR R
  rintro w5 ⟨z, hz⟩
  have u5 : Up w4 w5 := by rw [hz]; exact Up.trans (Up.refl w4).drew z.up
  have U5 : Hid (Up w w5) := Up.trans U4.out u5
  have X5 : Hid (w5.heap[bx]? = some (.cells D2 37 (0, 0))) := (u5.block bx (lt_of_block X4.out)).trans X4.out
  clear hz u5
  cases rs
  case true =>
    go_wp2
    go_ret
    exact ⟨rfl, U5.out⟩
  have HNE : Hid (ls[k] ≠ x) := fun e => by have := HRS.out; simp [e] at this
  clear HRS
  go_wp2_with (first | ((with_reducible show wpList _ _ _ (Oper.mk _ (Op.call (Call.mk _ #[Operand.tmp 41, Operand.tmp 42] _)) _ _ _ _ :: _) _ _); refine wpList_named ?_; intro W6 hW6; (have hu : Up w5 W6 := by (rw [hW6]; exact (Up.refl w5).alloc _)); (have ho : OwnK w W6 w5.heap.size (.slice (some ⟨w5.heap.size, 0, none⟩) 0 0) [] := by (rw [hW6]; exact OwnK.empty w w5)); have V6 := Lib.hid hu; have HO := Lib.hid ho; clear hW6 hu ho; refine wpList_appL rfl (.tmp 41) (.tmp 42) rfl rfl w5.heap.size _ [] ls _ n css rfl rfl HN.out (by simp only [List.length_nil]; omega) HO.out HFL.out (HSR.out _ (Up.trans U5.out V6.out)) V6.out.size ?_; intro v7 w7 o7 b7; rw [List.nil_append] at o7; obtain ⟨p7, c7, hv7⟩ := o7.form; rw [← HN.out] at hv7; subst hv7; (have u7 : Up w5 w7 := Below.trans V6.out b7); have U7' := Lib.hid u7; obtain ⟨g, rfl, hth, hWW⟩ := HSET.out w7 w5.heap.size p7 c7 U5.out.size (fun j hj => (Up.trans U5.out u7).block j hj) o7; have O7 := Lib.hid o7; rw [Nat.zero_add] at hth hWW; have TH := Lib.hid hth; have WW := Lib.hid hWW; clear o7 b7 u7 hth hWW) | ((with_reducible show wpList _ _ _ (Oper.mk _ (Op.load _ (Operand.tmp 5)) _ _ _ _ :: _) _ _); refine wpList_load_arr rfl 37 (.tmp 5) rfl bx 0 rfl D2 _ (rangeAt_row ((U7'.out.block bx (lt_of_block X5.out)).trans X5.out)) rfl rfl (by rw [HDS.out]; rfl) ?_) | ((with_reducible show wpList _ _ _ (Oper.mk _ (Op.store _ (Operand.tmp 47) _) _ _ _ _ :: _) _ _); refine wpList_store_arr rfl 37 (.tmp 47) (.tmp 46) rfl g (k * 35) D2 (by rfl) (by rfl) TH.out (by rw [HDS.out]; rfl) HD2c.out ?_; intro w8 h8; obtain ⟨b8, l8, _⟩ := WW.out w8 h8; (have U8 : Hid (Up w w8) := Up.trans U5.out (Below.trans U7'.out b8)); have L8 := Lib.hid l8; clear h8 b8 l8))
  obtain ⟨hn7, hm7⟩ := own_caps HN.out hpos O7.out
  refine (CM.out (some ⟨g, 0, none⟩) c7 w8 U8.out L8.out hn7 hm7).mono ?_
  rintro e w9 ⟨rfl, u9⟩
  have U9 : Hid (Up w w9) := Up.trans U8.out u9
  have L9 : Hid (Links w9 (some ⟨g, 0, none⟩) (ls.set k x)) := L8.out.up u9
  clear u9 CM
  obtain ⟨cm, hcm⟩ : ∃ cm, cm = chk (ls.set k x) := ⟨_, rfl⟩
  rw [← hcm]
  have HCM := Lib.hid hcm
  have hcc2 := chk_cases (ls.set k x)
  rw [← hcm] at hcc2
  clear hcm
  rcases hcc2 with rfl | rfl
  case inr =>
    go_wp2_with fail
    go_ret
    exact ⟨rfl, U9.out⟩
  by_cases hlast : k + 1 < n
  case neg =>
    have hn1 : (n : Int) - 1 = (k : Int) := by omega
    go_wp2_with fail
    go_ret
    exact ⟨rfl, U9.out⟩
  have dk : ((k : Int) == (n : Int) - 1) = false := by simp; omega
  have CC := Lib.hid (CL.out (some ⟨g, 0, none⟩) c7)
  have HB := Lib.hid (HLAW.out HNE.out HCM.out.symm hlast)
  rw [HB.out] at CC
  go_wp2_with fail
  haveI := UpW.some_ w9.drew
  have hs0 : (0 : Int) ≤ (k : Int) + 1 := by omega
  have hs1 : (k : Int) + 1 ≤ (c : Int) := by omega
  have hs2 : (k : Int) + 1 ≤ (c7 : Int) := by omega
  refine wp_region_up_k (by kernel_rfl) (by kernel_rfl) ?_
  intro R hR
  repeat (first | go_big_quiet_step (fail) | quiet_step ((go_at_call 17; with_reducible exact Calls.quiet_up (CC.out _ (Up.trans U9.out (Up.trans (Up.refl w9).drew (UpW.up _))) (L9.out.up (Up.trans (Up.refl w9).drew (UpW.up _)))))))
  refine wpQuiet_nil (hR _ ?_)
  clear hR R
  rintro w10 ⟨z, hz⟩
  have U10 : Hid (Up w w10) := by show Up w w10; rw [hz]; exact Up.trans U9.out (Up.trans (Up.refl w9).drew z.up)
  clear hz
  go_wp2_with fail
  go_ret
  exact ⟨rfl, U10.out⟩

theorem lawChanged_calls (p : Option Addr) (n c at' : Nat) (D2 : Array Value) (ls : List Lk) (x : Lk) (w : World) (ha : In w p n c ls) (hxw : x.wf) (hxv : LkV w D2.toList x) (hat : at' < 256) (h0 : Tab0 w) (h1 : Tab w) :
    Calls Tryd.prog 6 #[.slice p n c, .int .u8 (at' : Nat), .agg D2] w fun e w' => e = .returned (.bool true) ∧ Up w w' := by
  cases hfe : fewB ls with
  | false => exact changed_few p n c at' D2 ls x w ha hxw hxv ⟨h0, h1⟩ hfe
  | true =>
    rcases Classical.em (n = 0 ∨ 300 < x.data.length ∨ chk ls = 80) with h | h
    · exact changed_early p n c at' D2 ls x w ha hxw hxv ⟨h0, h1⟩ hfe h
    · exact changed_main p n c at' D2 ls x w ha hxw hxv ⟨h0, h1⟩ hfe (by omega) (by omega) ((chk_cases ls).resolve_right fun h' => h (Or.inr (Or.inr h'))) hat

end Go.Proofs.YtpafambdccejnaaDoor
