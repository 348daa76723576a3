/- the law OffersAll -/
import Derived.Test.YtmifpokafaiebaaDoorAlD
import Derived.Test.YtmifpokafaiebaaDoorLoOrd
namespace Go.Proofs.YtmifpokafaiebaaDoor
open Go Go.RowKit Go.Maps
set_option linter.unusedVariables false
set_option maxRecDepth 100000

theorem wpList_lookG {w : World} {ops : Array Oper} {rest : List Oper} {o : Oper} {a : Act} {Q : Exit → Act → World → Prop} (hw : Region.wanted o (yielded ops a.tmps) = true) (m x : Operand) (t : TypeId) (hop : o.op = Op.lookup t m x false)
    (k e : TypeId) (K : Keyed Tryd.prog k) (ht : Tryd.prog.underlying t = some (.map k e)) {z : Value} (hz : (zeroValue e).run Tryd.prog w = .ok z w) (b n : Nat) (f : Lit → Option Value)
    (hm : a.eval m = .map (some b)) (hown : MapL w k b n f) (key : Value) (kl : Lit) (hx : a.eval x = key) (hkey : keyOf Tryd.prog k key = some kl) (v : Value) (hv : (f kl).getD z = v)
    (hK : wpList Tryd.prog ops Q rest (a.put o.dst v) w) :
    wpList Tryd.prog ops Q (o :: rest) a w := by
  subst hv
  refine wpList_step fun K' hK' => ?_
  rw [if_pos hw]
  obtain ⟨D, hD, hf⟩ := hown
  obtain ⟨v, ps, hrun, hv⟩ := hD.lookup K ht hz (zd := .held z) (zp := []) rfl hkey
  rw [(hf kl (K.key hkey)).2 z] at hv
  have e1 : v = (f kl).getD z := by
    have h1 : some (DataW.held v, ([] : List MemPlace)) = some (DataW.held ((f kl).getD z), ps) := hv
    simpa using congrArg (fun o => o.map Prod.fst) h1
  subst e1
  unfold Oper.wp
  simp [execOp, hop, hm, hx, hrun, Result.andThen]
  exact hK' _ _ hK
def dgO (x : OpA) : List UInt8 := cmtB x.a.o x.salt
def aO (x : OpA) : OfA := x.a

set_option maxHeartbeats 64000000 in
theorem lawAll_calls (q : Option Addr) (m d : Nat) (xs : List OpA) (wh : Nat) (w : World) (hm : m = xs.length) (hd : m ≤ d) (hdm : d ≤ maxLen)
    (hx : RowAt w q 7 opCells xs) (hxa : ∀ x ∈ xs, OpAt w x) (hwh : wh < 256) (t0 : Tab0 w) (t1 : Tab w) :
    Calls Tryd.prog 7 #[.slice q m d, .int .u8 (wh : Nat)] w fun e w' => e = .returned (.bool true) ∧ Up w w' := by
  have HT : Hid (Tabs w) := ⟨t0, t1⟩
  have SN := Lib.hid fun W (hu : Up w W) => sane44_calls W (HT.out.up hu)
  have HX := Lib.hid hx
  have HXA := Lib.hid hxa
  have HM := Lib.hid hm
  have HD := Lib.hid (And.intro hd hdm)
  have hmm := @run_makeMap Tryd.prog
  clear hm hx hxa t0 t1 hd hdm
  go_enter Tryd.func7, Tryd.ntmps7
  go_wp2_with fail
  refine (SN.out w (Up.refl w)).mono ?_
  rintro e W3 ⟨rfl, u3⟩
  have U3 := Lib.hid u3
  clear u3 SN
  go_wp2_with fail
  refine wp_named ?_
  intro W4 hW4
  obtain ⟨b7, hb7⟩ : ∃ b, b = W3.heap.size := ⟨_, rfl⟩
  rw [← hb7]
  have u4 : Up W3 W4 := by rw [hW4]; exact (Up.refl W3).alloc _
  have m4 : MapL W4 9 b7 0 (strB []) := by rw [← strB_nil, hW4, hb7]; exact MapL.made W3 9
  have HU3 := Lib.hid U3.out
  have B4 : Hid (Below b7 W3 W4) := Up.below2 u4 (by rw [hb7]; exact Nat.le_refl _)
  have M4 := Lib.hid m4
  have HB7 : Hid (W3.heap.size = b7) := hb7.symm
  clear hW4 u4 m4 hb7 U3
  go_loopw [5, 6, 23] (fun v5 v6 v23 wq => ∃ (SS : List SlA) (i : Nat), i ≤ m ∧ v23 = .int .i64 i ∧ Hid (OwnR wq b7 52 2 slCells v5 SS) ∧ Hid (OwnR wq b7 26 6 ofCells v6 ((xs.take i).map aO)) ∧ Hid (SS.map slKey = (xs.take i).map kfO) ∧ Hid (∀ s ∈ SS, DigB wq s) ∧ Hid (MapL wq 9 b7 i (strB ((xs.take i).map dgO))) ∧ Hid (AllOk (xs.take i)) ∧ Hid (Below b7 W3 wq) ∧ Hid (0 < i → m ≤ 20)) (fun _ _ v23 _ => m - (intOf v23).toNat)
  case atStart => exact ⟨[], 0, by omega, rfl, OwnR.nil, OwnR.nil, rfl, (fun s h => by cases h), M4.out, AllOk.nil, B4.out, (fun h => absurd h (Nat.lt_irrefl _))⟩
  case round =>
    obtain ⟨SS, i, hi, rfl, HS, HA, HSK, HDB, HMP, HOK, HB, H20⟩ := hrel
    have HU : Hid (Up w wr) := Below.trans HU3.out (HB.out.mono (by rw [← HB7.out]; exact HU3.out.size))
    have hlA : ((xs.take i).map aO).length = i := by rw [List.length_map, List.length_take, ← HM.out]; omega
    have hlS : SS.length = i := by have := congrArg List.length HSK.out; rw [List.length_map, List.length_map, List.length_take, ← HM.out] at this; omega
    obtain ⟨q6, c6, e6, h61, h62, h63, -⟩ := HA.out.form (fun x _ => ofCells_len x)
    rw [hlA] at e6 h61
    subst e6
    obtain ⟨q5, c5, e5, h51, h52, h53, -⟩ := HS.out.form (fun x _ => slCells_len x)
    rw [hlS] at e5 h51
    subst e5
    have HR6 := Lib.hid h63
    have HR5 := Lib.hid h53
    have HC6 := Lib.hid (And.intro h61 h62)
    have HC5 := Lib.hid (And.intro h51 h52)
    have HLA := Lib.hid hlA
    have HLS := Lib.hid hlS
    clear hlA hlS h61 h62 h63 h51 h52 h53
    by_cases hlt : i < m
    case neg =>
      have him : m = i := by omega
      subst him
      have hT : xs.take m = xs := List.take_of_length_le (by rw [← HM.out]; exact Nat.le_refl _)
      rw [hT] at HA HSK HOK HMP HR6 HLA
      have hm20 : m ≤ 20 := by
        by_cases h : 0 < m
        · exact H20.out h
        · omega
      have PL := Lib.hid (all_plain HOK.out HSK.out (by rw [← HM.out]; omega))
      have HXW := Lib.hid (HX.out.kept2 HU.out)
      have RP := reveal_calls q5 q m c5 m d SS xs wr HLS.out.symm HM.out HC5.out.1 HC5.out.2 HD.out.1 HD.out.2 HR5.out (fun s hs => (HDB.out s hs).at) HXW.out (fun x hx => (HXA.out x hx).up HU.out) (HT.out.up HU.out)
      rw [PL.out.1] at RP
      have HRP := Lib.hid RP
      have HNL : Hid ((revO SS xs).length = m) := by show _ = _; rw [PL.out.2.1, List.length_map]; exact HM.out.symm
      have HNS : Hid ((revS SS xs).length = 0) := by show _ = _; rw [PL.out.2.2]; rfl
      have HAX := Lib.hid fun (W : World) (hu : Up wr W) (x : OfA) (hx : x ∈ xs.map aO) => (show LtsAt W x from by
        obtain ⟨y, hy, rfl⟩ := List.mem_map.1 hx
        exact (HXA.out y hy).lts.up (Up.trans HU.out hu))
      clear RP hT hi H20 HMP HB M4 B4 hmm
      go_wp2_with fail
      refine HRP.out.mono ?_
      intro e W5 hR
      obtain ⟨p1, k1, q1, j1, A1, he, r1⟩ := hR.lit HNL.out HNS.out
      subst he
      have U5 : Hid (Up wr W5) := r1.up
      have R1 := Lib.hid r1
      clear hR r1 HRP
      go_wp2_with fail
      refine (rsameAll_calls p1 q6 m m k1 c6 A1 (xs.map aO) W5 R1.out.len.symm HLA.out.symm (by omega) R1.out.c1 R1.out.c2 HC6.out.1 HC6.out.2 R1.out.row (HR6.out.kept2 U5.out) (fun a ha => ⟨R1.out.lts a ha, R1.out.lots a ha⟩) (HAX.out W5 U5.out)).mono ?_
      rintro e W8 ⟨he, u8⟩
      rw [decide_eq_true (show A1.map OfA.o = (xs.map aO).map OfA.o from by rw [R1.out.eq, PL.out.2.1, List.map_map]; rfl)] at he
      subst he
      have U8 : Hid (Up wr W8) := Up.trans U5.out u8
      clear u8 R1 U5
      by_cases hm0 : m = 0
      case pos =>
        subst hm0
        go_wp2_with fail
        go_ret
        exact ⟨rfl, Up.trans HU.out U8.out⟩
      have hmp : 0 < m := by omega
      have hm0' : ((m : Int) == 0) = false := by rw [beq_eq_false_iff_ne]; omega
      obtain ⟨k, hkk⟩ : ∃ k, k = wh % m := ⟨_, rfl⟩
      have hkn : k < m := by rw [hkk]; exact Nat.mod_lt _ hmp
      have em : ((wh : Int)).tmod (m : Int) = (k : Nat) := by rw [hkk, Int.ofNat_tmod]
      have em2 : ((wh : Int)) % (m : Int) = (k : Nat) := by rw [hkk]; simp
      have hkx : k < xs.length := by rw [← HM.out]; exact hkn
      have hxe : xs = xs.take k ++ xs[k] :: xs.drop (k + 1) := by rw [← List.drop_eq_getElem_cons hkx, List.take_append_drop]
      have PB : Hid (revE SS (xs.take k ++ xs.drop (k + 1)) = 0 ∧ revO SS (xs.take k ++ xs.drop (k + 1)) = (xs.take k ++ xs.drop (k + 1)).map (fun x => x.a.o) ∧ revS SS (xs.take k ++ xs.drop (k + 1)) = [(k : Int)]) := by
        have ho := HOK.out
        have hs := HSK.out
        rw [hxe] at ho hs
        have := but_plain ho hs (by rw [← hxe, ← HM.out]; omega)
        rwa [show (xs.take k).length = k from by rw [List.length_take]; omega] at this
      have HLB : Hid ((xs.take k ++ xs.drop (k + 1)).length = m - 1) := by show _ = _; rw [List.length_append, List.length_take, List.length_drop, ← HM.out]; omega
      clear hkk hkx hxe HSK HOK PL HNL HNS hm0
      go_wp2_with fail
      refine wp_region_scr_at (.still 0 (.still 2 (.still 3 (.still 4 (.still 6 (.still 7 (.still 8 (.still 9 (.one 1 (.one 5 (.one 10 (.one 11 (.still 12 (.still 13 (.still 14 (.still 15 (.still 16 (.still 17 (.still 18 .nil))))))))))))))))))) (by kernel_rfl) (by kernel_rfl) (fun _ _ d _ _ h => by cases d <;> exact h) ?_
      intro W6 u6 hW6
      obtain ⟨b, of, rfl, -⟩ := HX.out (by rintro rfl; have := HM.out; simp at this; omega)
      have V6 : Hid (Up wr W6) := Up.trans U8.out u6
      have HXR : Hid (RowAt W6 (some ⟨b, of, none⟩) 7 opCells xs) := HXW.out.kept2 V6.out
      obtain ⟨bz, hbz⟩ : ∃ b, b = W6.heap.size := ⟨_, rfl⟩
      have HBZ : Hid (W6.heap.size = bz) := hbz.symm
      have UPW : Hid (∀ W', Below bz W6 W' → Up wr W') := fun W' h => Below.trans V6.out (h.mono (by rw [← HBZ.out]; exact V6.out.size))
      clear u6 hW6 hbz U8
      refine ⟨fun W' => Below bz W6 W', Below.refl _ _, ?_⟩
      haveI : Nonempty (InC (fun W' => Below bz W6 W')) := ⟨⟨W6, Below.refl _ _⟩⟩
      have hmd := HD.out.1
      have hkc : k ≤ d := by omega
      have hk1 : k + 1 ≤ m := by omega
      have ekw : IntKind.i64.wrap ((k : Int) + 1) = ((k + 1 : Nat) : Int) := IntWalk.i64_in _ (by omega)
      refine wpScr_still rfl (fun K hK => ?_); go_simp; refine hK _ ?_; clear hK K
      refine wpScr_still rfl (fun K hK => ?_); go_simp; refine hK _ ?_; clear hK K
      refine wpScr_still rfl (fun K hK => ?_); go_simp; refine hK _ ?_; clear hK K
      refine wpScr_still rfl (fun K hK => ?_)
      go_simp
      first | (refine hK _ ?_) | (refine ⟨.slice (some ⟨b, of, none⟩) k d, fun a => by rw [if_pos hkc]; exact ⟨rfl, rfl⟩, ?_⟩; refine hK _ ?_)
      clear hK K
      refine wpScr_still rfl (fun K hK => ?_); go_simp; refine hK _ ?_; clear hK K
      refine wpScr_still rfl (fun K hK => ?_); go_simp; refine hK _ ?_; clear hK K
      refine wpScr_still rfl (fun K hK => ?_); go_simp; refine hK _ ?_; clear hK K
      obtain ⟨pp, hpp⟩ : ∃ pp : Option Addr, pp = (if d = k + 1 then some ⟨b, of, none⟩ else some ⟨b, of + (k + 1) * 7, none⟩) := ⟨_, rfl⟩
      have HPQ := Lib.hid hpp
      have HPP : Hid (RowAt wr pp 7 opCells (xs.drop (k + 1))) := by
        by_cases h : d = k + 1
        · have e : xs.drop (k + 1) = [] := List.drop_of_length_le (by rw [← HM.out]; omega)
          show RowAt _ _ _ _ _
          rw [e]; exact RowAt.nil _ _
        · rw [if_neg h] at hpp
          rw [hpp]
          exact HXW.out.drop (k + 1)
      clear hpp
      refine wpScr_still rfl (fun K hK => ?_)
      go_simp
      refine ⟨.slice pp (m - (k + 1)) (d - (k + 1)), fun a => ?q, ?_⟩
      case q =>
        rw [if_pos (by omega)]
        refine ⟨rfl, ?_⟩
        rw [HPQ.out]
        try rfl
      refine hK _ ?_
      clear hK K
      refine stepScr_go rfl (fun K hK => ?_)
      go_simp
      obtain ⟨be, hbe⟩ : ∃ b, b = W6.heap.size := ⟨_, rfl⟩
      obtain ⟨Wa, hV⟩ : ∃ V, V = W6.alloc (.cells #[] 44 (0, 0)) := ⟨_, rfl⟩
      rw [← hbe, ← hV]
      have oe : OwnR Wa bz 44 7 opCells (.slice (some ⟨be, 0, none⟩) 0 0) [] := by rw [hV, hbe]; exact (OwnR.empty W6).less (by rw [← HBZ.out]; exact Nat.le_refl _)
      have b1 : Below bz W6 Wa := Up.below2 (by rw [hV]; exact (Up.refl _).alloc _) (by rw [← HBZ.out]; exact Nat.le_refl _)
      have OE := Lib.hid oe
      have B1 := Lib.hid b1
      refine hK _ _ (inC b1) ?_
      clear hK K hV hbe oe b1
      refine stepScr_want rfl rfl (fun K hK => ?_)
      refine wp_appR (.tmp 114) (.tmp 117) eltOpen (by omega) rfl rfl bz _ [] (some ⟨b, of, none⟩) k d (xs.take k) rfl rfl ?x0 (fun x _ => opCells_len x) (fun x _ => opCells_one x) ?x1 ?x2 ?x3 ?x4 ?_
      case x0 => rw [List.length_take, ← HM.out]; omega
      case x1 => exact OE.out
      case x2 => exact (HXW.out.take k).kept2 (UPW.out _ B1.out)
      case x3 => (rw [List.length_take, ← HM.out]; simp only [List.length_nil]; omega)
      case x4 => (rw [← HBZ.out]; exact B1.out.size)
      intro p' m' d' Wc o3 bb3 g3
      rw [List.nil_append] at o3
      have O3 := Lib.hid o3
      have B3 : Hid (Below bz W6 Wc) := B1.out.trans bb3
      refine hK _ _ (inC B3.out) ?_
      clear hK K o3 bb3 g3 OE B1
      refine stepScr_want rfl rfl (fun K hK => ?_)
      refine wp_appR (.tmp 118) (.tmp 122) eltOpen (by omega) rfl rfl bz _ (xs.take k) pp (m - (k + 1)) (d - (k + 1)) (xs.drop (k + 1)) rfl rfl ?x0 (fun x _ => opCells_len x) (fun x _ => opCells_one x) ?x1 ?x2 ?x3 ?x4 ?_
      case x0 => rw [List.length_drop, ← HM.out]
      case x1 => exact O3.out
      case x2 => exact HPP.out.kept2 (UPW.out _ B3.out)
      case x3 => (rw [List.length_take, List.length_drop, ← HM.out]; omega)
      case x4 => (rw [← HBZ.out]; exact B3.out.size)
      intro p9 m9 d9 Wd o9 bb9 g9
      obtain ⟨p8, c8, e8, h81, h82, h83, -⟩ := o9.form (fun x _ => opCells_len x)
      injection e8 with e1 e2 e3
      subst e1 e3
      rw [HLB.out] at h81
      have e4 : m - 1 = m9 := by rw [e2, HLB.out]
      subst e4
      have B9 : Hid (Below bz W6 Wd) := B3.out.trans bb9
      have UD := UPW.out _ B9.out
      have RQ := reveal_calls q5 p9 m c5 (m - 1) d9 SS (xs.take k ++ xs.drop (k + 1)) Wd HLS.out.symm HLB.out.symm HC5.out.1 HC5.out.2 h81 h82 (HR5.out.kept2 UD) (fun s hs => ((HDB.out s hs).up UD).at) h83 (fun x hx => (HXA.out x (by
        rcases List.mem_append.1 hx with h | h
        · exact List.mem_of_mem_take h
        · exact List.mem_of_mem_drop h)).up (Up.trans HU.out UD)) (HT.out.up (Up.trans HU.out UD))
      rw [PB.out.1] at RQ
      have HRQ := Lib.hid RQ
      have HNL2 : Hid ((revO SS (xs.take k ++ xs.drop (k + 1))).length = m - 1) := by show _ = _; rw [PB.out.2.1, List.length_map]; exact HLB.out
      have HNS2 : Hid ((revS SS (xs.take k ++ xs.drop (k + 1))).length = 1) := by show _ = _; rw [PB.out.2.2]; rfl
      refine hK _ _ (inC B9.out) ?_
      clear hK K o9 bb9 g9 O3 B3 h81 h82 h83 e2 RQ UD
      refine stepScr_go rfl (fun K hK => ?_)
      go_simp
      refine HRQ.out.mono ?_
      intro e We hR
      obtain ⟨p2, k2, q2, j2, A2, he, r2⟩ := hR.lit HNL2.out HNS2.out
      subst he
      have R2 := Lib.hid r2
      have BE : Hid (Below bz W6 We) := B9.out.trans (Up.below2 r2.up (by rw [← HBZ.out]; exact B9.out.size))
      refine hK _ _ (inC BE.out) ?_
      clear hK K hR r2 HRQ B9
      repeat (refine wpScr_still rfl (fun K hK => ?_); go_simp; refine hK _ ?_; clear hK K)
      refine wpScr_nil ?_
      have UE : Hid (Up wr We) := UPW.out _ BE.out
      clear BE UPW HPP HBZ V6 HXR HPQ HXW
      go_wp2_with fail
      refine wp_region_scr_at (.still 0 (.still 1 (.still 2 (.still 3 (.still 5 (.still 6 (.still 7 (.still 9 (.still 10 (.still 11 (.still 12 (.one 4 (.one 8 (.one 13 (.one 14 (.still 15 (.still 16 (.still 17 (.still 18 (.one 19 (.one 20 (.still 21 (.still 22 .nil))))))))))))))))))))))) (by kernel_rfl) (by kernel_rfl) (fun _ _ d _ _ h => by cases d <;> exact h) ?_
      intro Wg ug hWg
      have VG : Hid (Up wr Wg) := Up.trans UE.out ug
      have R2G := Lib.hid (R2.out.kept ug)
      obtain ⟨b6, o6, rfl, -⟩ := HR6.out (by intro h; have := HLA.out; rw [h] at this; simp at this; omega)
      obtain ⟨bz2, hbz2⟩ : ∃ b, b = Wg.heap.size := ⟨_, rfl⟩
      have HBZ2 : Hid (Wg.heap.size = bz2) := hbz2.symm
      have UPG : Hid (∀ W', Below bz2 Wg W' → Up Wg W') := fun W' h => h.mono (by rw [← HBZ2.out]; exact Nat.le_refl _)
      clear ug hWg hbz2 UE R2
      refine ⟨fun W' => Below bz2 Wg W', Below.refl _ _, ?_⟩
      haveI : Nonempty (InC (fun W' => Below bz2 Wg W')) := ⟨⟨Wg, Below.refl _ _⟩⟩
      have hmc6 := HC6.out.1
      have hkc6 : k ≤ c6 := by omega
      refine wpScr_still rfl (fun K hK => ?_); go_simp; refine hK _ ?_; clear hK K
      refine wpScr_still rfl (fun K hK => ?_); go_simp; refine hK _ ?_; clear hK K
      refine wpScr_still rfl (fun K hK => ?_); go_simp; refine hK _ ?_; clear hK K
      refine wpScr_still rfl (fun K hK => ?_); go_simp; refine hK _ ?_; clear hK K
      refine wpScr_still rfl (fun K hK => ?_); go_simp; refine hK _ ?_; clear hK K
      refine wpScr_still rfl (fun K hK => ?_); go_simp; refine hK _ ?_; clear hK K
      refine wpScr_still rfl (fun K hK => ?_)
      go_simp
      first | (refine hK _ ?_) | (refine ⟨.slice (some ⟨b6, o6, none⟩) k c6, fun a => by rw [if_pos hkc6]; exact ⟨rfl, rfl⟩, ?_⟩; refine hK _ ?_)
      clear hK K
      refine wpScr_still rfl (fun K hK => ?_); go_simp; refine hK _ ?_; clear hK K
      refine wpScr_still rfl (fun K hK => ?_); go_simp; refine hK _ ?_; clear hK K
      refine wpScr_still rfl (fun K hK => ?_); go_simp; refine hK _ ?_; clear hK K
      obtain ⟨pq, hpq⟩ : ∃ pp : Option Addr, pp = (if c6 = k + 1 then some ⟨b6, o6, none⟩ else some ⟨b6, o6 + (k + 1) * 6, none⟩) := ⟨_, rfl⟩
      have HPQ := Lib.hid hpq
      have HPP : Hid (RowAt wr pq 6 ofCells ((xs.map aO).drop (k + 1))) := by
        by_cases h : c6 = k + 1
        · have e : (xs.map aO).drop (k + 1) = [] := List.drop_of_length_le (by rw [HLA.out]; omega)
          show RowAt _ _ _ _ _
          rw [e]; exact RowAt.nil _ _
        · rw [if_neg h] at hpq
          rw [hpq]
          exact HR6.out.drop (k + 1)
      clear hpq
      refine wpScr_still rfl (fun K hK => ?_)
      go_simp
      refine ⟨.slice pq (m - (k + 1)) (c6 - (k + 1)), fun a => ?q, ?_⟩
      case q =>
        rw [if_pos (by omega)]
        refine ⟨rfl, ?_⟩
        rw [HPQ.out]
        try rfl
      refine hK _ ?_
      clear hK K
      refine stepScr_go rfl (fun K hK => ?_)
      go_simp
      obtain ⟨be, hbe⟩ : ∃ b, b = Wg.heap.size := ⟨_, rfl⟩
      obtain ⟨Wa, hV⟩ : ∃ V, V = Wg.alloc (.cells #[] 26 (0, 0)) := ⟨_, rfl⟩
      rw [← hbe, ← hV]
      have oe : OwnR Wa bz2 26 6 ofCells (.slice (some ⟨be, 0, none⟩) 0 0) [] := by rw [hV, hbe]; exact (OwnR.empty Wg).less (by rw [← HBZ2.out]; exact Nat.le_refl _)
      have b1 : Below bz2 Wg Wa := Up.below2 (by rw [hV]; exact (Up.refl _).alloc _) (by rw [← HBZ2.out]; exact Nat.le_refl _)
      have OE := Lib.hid oe
      have B1 := Lib.hid b1
      refine hK _ _ (inC b1) ?_
      clear hK K hV hbe oe b1
      refine stepScr_want rfl rfl (fun K hK => ?_)
      refine wp_appR (.tmp 132) (.tmp 135) eltOff (by omega) rfl rfl bz2 _ [] (some ⟨b6, o6, none⟩) k c6 ((xs.map aO).take k) rfl rfl ?x0 (fun x _ => ofCells_len x) (fun x _ => ofCells_one x) ?x1 ?x2 ?x3 ?x4 ?_
      case x0 => rw [List.length_take, HLA.out]; omega
      case x1 => exact OE.out
      case x2 => exact (HR6.out.take k).kept2 (Up.trans VG.out (UPG.out _ B1.out))
      case x3 => (rw [List.length_take, HLA.out]; simp only [List.length_nil]; omega)
      case x4 => (rw [← HBZ2.out]; exact B1.out.size)
      intro p' m' d' Wc o3 bb3 g3
      rw [List.nil_append] at o3
      have O3 := Lib.hid o3
      have B3 : Hid (Below bz2 Wg Wc) := B1.out.trans bb3
      refine hK _ _ (inC B3.out) ?_
      clear hK K o3 bb3 g3 OE B1
      refine stepScr_want rfl rfl (fun K hK => ?_)
      refine wp_appR (.tmp 136) (.tmp 140) eltOff (by omega) rfl rfl bz2 _ ((xs.map aO).take k) pq (m - (k + 1)) (c6 - (k + 1)) ((xs.map aO).drop (k + 1)) rfl rfl ?x0 (fun x _ => ofCells_len x) (fun x _ => ofCells_one x) ?x1 ?x2 ?x3 ?x4 ?_
      case x0 => rw [List.length_drop, HLA.out]
      case x1 => exact O3.out
      case x2 => exact HPP.out.kept2 (Up.trans VG.out (UPG.out _ B3.out))
      case x3 => (rw [List.length_take, List.length_drop, HLA.out]; omega)
      case x4 => (rw [← HBZ2.out]; exact B3.out.size)
      intro p7 m7 d7 Wd o9 bb9 g9
      obtain ⟨p8, c8, e8, h81, h82, h83, -⟩ := o9.form (fun x _ => ofCells_len x)
      injection e8 with e1 e2 e3
      subst e1 e3
      have hlo : ((xs.map aO).take k ++ (xs.map aO).drop (k + 1)).length = m - 1 := by rw [List.length_append, List.length_take, List.length_drop, HLA.out]; omega
      rw [hlo] at h81
      have e4 : m - 1 = m7 := by rw [e2, hlo]
      subst e4
      have B9 : Hid (Below bz2 Wg Wd) := B3.out.trans bb9
      have UD := UPG.out _ B9.out
      have RSA := Lib.hid (rsameAll_calls p2 p7 (m - 1) (m - 1) k2 d7 A2 ((xs.map aO).take k ++ (xs.map aO).drop (k + 1)) Wd R2G.out.len.symm hlo.symm (by omega) R2G.out.c1 R2G.out.c2 h81 h82 (R2G.out.row.kept2 UD) h83 (fun a ha => ⟨(R2G.out.lts a ha).up UD, R2G.out.lots a ha⟩) (fun b hb => HAX.out Wd (Up.trans VG.out UD) b (by
        rcases List.mem_append.1 hb with h | h
        · exact List.mem_of_mem_take h
        · exact List.mem_of_mem_drop h)))
      have HEQ : Hid (A2.map OfA.o = ((xs.map aO).take k ++ (xs.map aO).drop (k + 1)).map OfA.o) := by
        show _ = _
        rw [R2G.out.eq, PB.out.2.1, List.map_append, List.map_append, List.map_take, List.map_drop, List.map_take, List.map_drop, List.map_map]; rfl
      refine hK _ _ (inC B9.out) ?_
      clear hK K o9 bb9 g9 O3 B3 h81 h82 h83 e2 UD hlo
      refine stepScr_go rfl (fun K hK => ?_)
      go_simp
      refine RSA.out.mono ?_
      rintro e We2 ⟨he, u9⟩
      rw [decide_eq_true HEQ.out] at he
      subst he
      have BF : Hid (Below bz2 Wg We2) := B9.out.trans (Up.below2 u9 (by rw [← HBZ2.out]; exact B9.out.size))
      refine hK _ _ (inC BF.out) ?_
      clear hK K u9 RSA HEQ B9
      refine wpScr_still rfl (fun K hK => ?_); go_simp; refine hK _ ?_; clear hK K
      refine wpScr_still rfl (fun K hK => ?_); go_simp; refine hK _ ?_; clear hK K
      refine wpScr_still rfl (fun K hK => ?_); go_simp; refine hK _ ?_; clear hK K
      refine wpScr_still rfl (fun K hK => ?_); go_simp; refine hK _ ?_; clear hK K
      refine stepScr_go rfl (fun K hK => ?_)
      go_simp
      obtain ⟨bi, hbi⟩ : ∃ b, b = We2.heap.size := ⟨_, rfl⟩
      obtain ⟨Wf, hV⟩ : ∃ V, V = We2.alloc (.cells #[.int .i64 (k : Int)] 3 (0, 0)) := ⟨_, rfl⟩
      rw [← hbi, ← hV]
      have rI : RowAt Wf (some ⟨bi, 0, none⟩) 1 iEnc [(k : Int)] := rowAt_block (D := #[.int .i64 (k : Int)]) (fun _ _ => rfl) rfl (by rw [hV]; exact heap_new hbi)
      have RI := Lib.hid rI
      have B5 : Hid (Below bz2 Wg Wf) := BF.out.trans (Up.below2 (by rw [hV]; exact (Up.refl _).alloc _) (by rw [← HBZ2.out]; exact BF.out.size))
      refine hK _ _ (inC B5.out) ?_
      clear hK K hV hbi rI BF
      refine stepScr_go rfl (fun K hK => ?_)
      go_simp
      refine (rsameNumbers_calls q2 (some ⟨bi, 0, none⟩) 1 1 j2 1 (revS SS (xs.take k ++ xs.drop (k + 1))) [(k : Int)] Wf (by rw [PB.out.2.2]; rfl) rfl (by omega) R2G.out.d1 R2G.out.d2 (Nat.le_refl _) (by unfold maxLen; omega) (R2G.out.row2.kept2 (UPG.out _ B5.out)) RI.out).mono ?_
      rintro e Wh ⟨he, u9⟩
      rw [decide_eq_true PB.out.2.2] at he
      subst he
      have B6 : Hid (Below bz2 Wg Wh) := B5.out.trans (Up.below2 u9 (by rw [← HBZ2.out]; exact B5.out.size))
      refine hK _ _ (inC B6.out) ?_
      clear hK K u9 RI B5
      refine wpScr_still rfl (fun K hK => ?_); go_simp; refine hK _ ?_; clear hK K
      refine wpScr_still rfl (fun K hK => ?_); go_simp; refine hK _ ?_; clear hK K
      refine wpScr_nil ?_
      have UH : Hid (Up w Wh) := Up.trans HU.out (Up.trans VG.out (UPG.out _ B6.out))
      go_wp2_with fail
      go_ret
      exact ⟨rfl, UH.out⟩
    have hkx : i < xs.length := by rw [← HM.out]; exact hlt
    obtain ⟨b, of, rfl, hpr⟩ := HX.out (by rintro rfl; simp at hkx)
    have g := rangeAt_up (hpr i hkx) HU.out
    have hxk := HXA.out _ (List.getElem_mem hkx)
    have htk := List.take_succ_eq_append_getElem hkx
    obtain ⟨x, hxx⟩ : ∃ x, x = xs[i] := ⟨_, rfl⟩
    rw [← hxx] at g hxk htk
    have HTK := Lib.hid htk
    have HXK := Lib.hid hxk
    have SX := Lib.hid fun W => rsmall_calls x.a x.sp x.salt.length x.sc W
    have CM := Lib.hid fun W (hu : Up wr W) => ocommit_calls x.a x.salt x.sp x.sc W (hxk.lts.up (Up.trans HU.out hu)) (hxk.sb.up (Up.trans HU.out hu)) (HT.out.up (Up.trans HU.out hu))
    have CM2 := Lib.hid fun W (hu : Up wr W) => ocommit2_calls x.a x.salt x.sp x.sc W (hxk.lts.up (Up.trans HU.out hu)) (hxk.sb.up (Up.trans HU.out hu)) (HT.out.up (Up.trans HU.out hu))
    obtain ⟨eb, heb⟩ : ∃ eb, eb = msgE x.a.o x.salt := ⟨_, rfl⟩
    have HEB := Lib.hid heb
    obtain ⟨sn, hsn⟩ : ∃ sn, sn = x.salt.length := ⟨_, rfl⟩
    obtain ⟨A, hA⟩ : ∃ A, A = (ofCells x.a).toArray := ⟨_, rfl⟩
    obtain ⟨B, hB⟩ : ∃ B, B = (opCells x).toArray := ⟨_, rfl⟩
    obtain ⟨xn, hxn⟩ : ∃ xn, xn = x.a.o.no := ⟨_, rfl⟩
    obtain ⟨xf, hxf⟩ : ∃ xf, xf = x.a.o.farm := ⟨_, rfl⟩
    obtain ⟨sm, hsm⟩ : ∃ sm, sm = smallB x.a.o sn := ⟨_, rfl⟩
    have hAs : A.size = 6 := by rw [hA]; rfl
    have hBs : B.size = 7 := by rw [hB]; rfl
    have hBc : B.all (·.oneCell') = true := by
      rw [hB, Array.all_eq_true_iff_forall_mem]
      intro v hv
      exact opCells_one _ v (by simpa using hv)
    have hBA : ∀ j, j < A.size → B[0 + j]? = A[j]? := fun j hj => by
      have hj6 : j < 6 := by rw [hAs] at hj; exact hj
      rw [Nat.zero_add, hB, hA]
      obtain rfl | rfl | rfl | rfl | rfl | rfl : j = 0 ∨ j = 1 ∨ j = 2 ∨ j = 3 ∨ j = 4 ∨ j = 5 := by omega
      all_goals rfl
    have hB6 : B[6]? = some (.slice x.sp sn x.sc) := by rw [hB, hsn]; rfl
    have hB0 : B[0]? = some (.int .i64 xn) := by rw [hB, hxn]; rfl
    have hB1 : B[1]? = some (.int .i64 xf) := by rw [hB, hxf]; rfl
    rw [← hA, ← hsn, ← heb] at CM
    rw [← hA, ← hsn, ← heb] at CM2
    rw [← hA, ← hsn, ← hsm] at SX
    have G : Hid (wr.rangeAt b (of + i * 7) B.toList) := by show wr.rangeAt _ _ _; rw [hB]; exact g
    have HAA := Lib.hid hA
    have HXN := Lib.hid hxn
    have HXF := Lib.hid hxf
    have HAs := Lib.hid hAs
    have HBs := Lib.hid hBs
    have HBc := Lib.hid hBc
    have HBA := Lib.hid hBA
    have HB6 := Lib.hid hB6
    have HB0 := Lib.hid hB0
    have HB1 := Lib.hid hB1
    clear hA hB hAs hBs hBc hBA hB6 hB0 hB1 heb hsn hxn hxf hsm g hxk hpr hkx hxx htk
    by_cases h20 : m ≤ 20
    case neg =>
      have d1 : decide ((20 : Int) < (m : Int)) = true := by simp; omega
      clear h20
      go_wp2_with (first | ((with_reducible show wpList _ _ _ (Oper.mk _ (Op.load _ (Operand.tmp 25)) _ _ _ _ :: _) _ _); refine wpList_load_arr rfl 44 (.tmp 25) rfl b (of + i * 7) rfl B _ G.out rfl rfl (by rw [HBs.out]; rfl) ?_) | ((with_reducible show wpList _ _ _ (Oper.mk _ (Op.store _ (Operand.tmp 9) (Operand.tmp 26)) _ _ _ _ :: _) _ _); refine wpList_store_row rfl 44 (.tmp 9) (.tmp 26) rfl _ B rfl rfl 44 _ (heap_new rfl) (by rw [HBs.out]; rfl) (by rw [HBs.out]; rfl) HBc.out ?_; refine wpList_named ?_; intro W5 hW5; have u5 : Up wr W5 := (by rw [hW5]; exact below_setRow ((Up.refl wr).alloc _) (Nat.le_refl _) _); have x5 : W5.heap[wr.heap.size]? = some (.cells B 44 (0, 0)) := (by rw [hW5]; exact setRow_heap _ _ _ _ _ _ (heap_new rfl)); (have l6 : W5.cell? ⟨wr.heap.size, 6, none⟩ = some (.slice x.sp sn x.sc) := (cell_of_row W5 _ 6 _ _ _ x5).trans HB6.out); have U5 := Lib.hid u5; have X5 := Lib.hid x5; clear hW5 u5 x5))
      go_ret
      exact ⟨rfl, Up.trans HU.out U5.out⟩
    have d1 : decide ((20 : Int) < (m : Int)) = false := by simp; omega
    have H20' : Hid (m ≤ 20) := h20
    clear H20
    go_wp2_with (first | ((with_reducible show wpList _ _ _ (Oper.mk _ (Op.load _ (Operand.tmp 25)) _ _ _ _ :: _) _ _); refine wpList_load_arr rfl 44 (.tmp 25) rfl b (of + i * 7) rfl B _ G.out rfl rfl (by rw [HBs.out]; rfl) ?_) | ((with_reducible show wpList _ _ _ (Oper.mk _ (Op.store _ (Operand.tmp 9) (Operand.tmp 26)) _ _ _ _ :: _) _ _); refine wpList_store_row rfl 44 (.tmp 9) (.tmp 26) rfl _ B rfl rfl 44 _ (heap_new rfl) (by rw [HBs.out]; rfl) (by rw [HBs.out]; rfl) HBc.out ?_; refine wpList_named ?_; intro W5 hW5; have u5 : Up wr W5 := (by rw [hW5]; exact below_setRow ((Up.refl wr).alloc _) (Nat.le_refl _) _); have x5 : W5.heap[wr.heap.size]? = some (.cells B 44 (0, 0)) := (by rw [hW5]; exact setRow_heap _ _ _ _ _ _ (heap_new rfl)); (have l6 : W5.cell? ⟨wr.heap.size, 6, none⟩ = some (.slice x.sp sn x.sc) := (cell_of_row W5 _ 6 _ _ _ x5).trans HB6.out); have U5 := Lib.hid u5; have X5 := Lib.hid x5; clear hW5 u5 x5) | ((with_reducible show wpList _ _ _ (Oper.mk _ (Op.load _ (Operand.tmp 31)) _ _ _ _ :: _) _ _); refine wpList_load_arrG (by rfl) 26 (.tmp 31) rfl wr.heap.size 0 rfl A _ (rangeAt_part X5.out 0 A HBA.out) rfl rfl (by rw [HAs.out]; rfl) ?_))
    refine (SX.out W5).mono ?_
    rintro e W6 ⟨rfl, u6⟩
    have U6 : Hid (Up wr W6) := Up.trans U5.out u6
    have X6 := Lib.hid ((u6.block _ (lt_of_block X5.out)).trans X5.out)
    have l6' : W6.cell? ⟨wr.heap.size, 6, none⟩ = some (.slice x.sp sn x.sc) := (cell_of_row W6 _ 6 _ _ _ X6.out).trans HB6.out
    clear u6 X5 U5 l6 SX G d1
    cases sm
    case false =>
      go_wp2_with fail
      go_ret
      exact ⟨rfl, Up.trans HU.out U6.out⟩
    go_wp2_with (first | ((with_reducible show wpList _ _ _ (Oper.mk _ (Op.load _ (Operand.tmp 39)) _ _ _ _ :: _) _ _); refine wpList_load_arr rfl 26 (.tmp 39) rfl wr.heap.size 0 rfl A _ (rangeAt_part X6.out 0 A HBA.out) rfl rfl (by rw [HAs.out]; rfl) ?_))
    by_cases h0 : eb = 0
    case neg =>
      refine (CM.out W6 U6.out).mono ?_
      rintro e W7 ⟨pd, cd, rfl, sbd, hc1, hc2, u7⟩
      have U7 : Hid (Up w W7) := Up.trans HU.out (Up.trans U6.out u7)
      have d0 : (eb != 0) = true := by rw [bne_iff_ne]; exact h0
      clear h0 CM CM2 u7 sbd hc1 hc2 U6 X6 l6'
      go_wp2_with fail
      go_ret
      exact ⟨rfl, U7.out⟩
    refine (CM2.out W6 U6.out h0).mono ?_
    rintro e W7 ⟨bd, rfl, hbd, u7⟩
    have HE0 : Hid (msgE x.a.o x.salt = 0) := by show _ = _; rw [← HEB.out]; exact h0
    have U7 : Hid (Up wr W7) := Up.trans U6.out u7
    have X7 := Lib.hid ((u7.block _ (lt_of_block X6.out)).trans X6.out)
    have HBD := Lib.hid hbd
    obtain ⟨D, hD⟩ : ∃ D, D = cmtB x.a.o x.salt := ⟨_, rfl⟩
    rw [← hD] at HBD
    have HDD := Lib.hid hD
    have HDL : Hid (D.length = 32) := by show _ = _; rw [hD]; exact cmtB_length _ _
    have M7 := Lib.hid (HMP.out.up U7.out)
    have HMPS := Lib.hid HMP.out.lt
    have d0 : ((0 : Int) != 0) = false := by simp
    have q4 : (convert 27 9 (.slice (some ⟨bd, 0, none⟩) 32 32)).run Tryd.prog W7 = .ok (.string (bsOf D)) W7 := by
      have := run_text_of W7 (some ⟨bd, 0, none⟩) 32 D (sb_digest HBD.out)
      rwa [HDL.out] at this
    clear h0 CM CM2 u7 hbd hD U6 X6 l6' HMP HEB
    obtain ⟨sb, hsb⟩ : ∃ sb, decide (D ∈ (xs.take i).map dgO) = sb := ⟨_, rfl⟩
    have HSN := Lib.hid (strB_at _ D sb hsb)
    cases sb
    case true =>
      clear hsb
      go_wp2_with (first | ((with_reducible show wpList _ _ _ (Oper.mk _ (Op.lookup _ _ (Operand.tmp 51) _) _ _ _ _ :: _) _ _); refine wpList_lookG (by rfl) (.tmp 49) (.tmp 51) 50 rfl 9 4 keyedStr rfl (zeroBool _) b7 i (strB ((xs.take i).map dgO)) rfl M7.out _ (.string D) rfl (keyStr D (by rw [HDL.out]; unfold maxLen; omega)) (.bool _) HSN.out ?_))
      go_ret
      exact ⟨rfl, Up.trans HU.out U7.out⟩
    have HNIN : Hid (D ∉ (xs.take i).map dgO) := of_decide_eq_false hsb
    clear hsb
    go_wp2_with (first | ((with_reducible show wpList _ _ _ (Oper.mk _ (Op.lookup _ _ (Operand.tmp 51) _) _ _ _ _ :: _) _ _); refine wpList_lookG (by rfl) (.tmp 49) (.tmp 51) 50 rfl 9 4 keyedStr rfl (zeroBool _) b7 i (strB ((xs.take i).map dgO)) rfl M7.out _ (.string D) rfl (keyStr D (by rw [HDL.out]; unfold maxLen; omega)) (.bool _) HSN.out ?_) | ((with_reducible show wpList _ _ _ (Oper.mk _ (Op.mapUpdate _ _ _ _) _ _ _ _ :: _) _ _); refine wpList_mapPut rfl (.tmp 54) (.tmp 56) (.const (.bool true)) 50 rfl 9 4 keyedStr rfl b7 i (strB ((xs.take i).map dgO)) rfl M7.out (by unfold maxLen; omega) _ (.bool true) (.string D) rfl rfl (keyStr D (by rw [HDL.out]; unfold maxLen; omega)) ?_; intro W9 m9 g9; rw [strB_put] at m9; have M9 := Lib.hid m9; have G9 := Lib.hid g9; clear m9 g9))
    obtain ⟨sN, hsN⟩ : ∃ sN : SlA, sN = { farm := x.a.o.farm, dig := D, p := some ⟨bd, 0, none⟩, c := 32 } := ⟨_, rfl⟩
    have hbx7 : b7 < wr.heap.size := HMPS.out
    have D7 : DigB W7 sN := by rw [hsN]; exact ⟨HDL.out, rfl, bd, rfl, HBD.out⟩
    have D9 : Hid (DigB W9 sN) := D7.put M7.out G9.out
    have S9 : Hid (OwnR W9 b7 52 2 slCells (.slice q5 i c5) SS) := (HS.out.up U7.out).put M7.out G9.out
    have A9 : Hid (OwnR W9 b7 26 6 ofCells (.slice q6 i c6) ((xs.take i).map aO)) := (HA.out.up U7.out).put M7.out G9.out
    have DB9 : Hid (∀ s ∈ SS, DigB W9 s) := fun s hs => ((HDB.out s hs).up U7.out).put M7.out G9.out
    have B9 : Hid (Below b7 W3 W9) := (HB.out.trans (Up.below2 U7.out (Below.size' HB.out (by rw [HB7.out]; exact Nat.le_refl _)))).trans (grown_below G9.out (Nat.le_of_lt (M7.out.lt)) (fun g h => by injection h with h; rw [h]; exact Nat.le_refl _))
    have R9 : Hid (RowAt W9 q6 6 ofCells ((xs.take i).map aO)) := by
      obtain ⟨_, _, e, -, -, h, -⟩ := A9.out.form (fun x _ => ofCells_len x)
      injection e with e1 e2 e3; subst e1; exact h
    have X9 : Hid (W9.heap[wr.heap.size]? = some (.cells B 44 (0, 0))) := (G9.out.block _ (lt_of_block X7.out) (by intro e; injection e with e; omega)).trans X7.out
    obtain ⟨bx, hbx⟩ : ∃ bx, bx = wr.heap.size := ⟨_, rfl⟩
    rw [← hbx] at X9 ⊢
    have HSNw := Lib.hid hsN
    have HUW : Hid (Up w W9) := Below.trans HU3.out (B9.out.mono (by rw [← HB7.out]; exact HU3.out.size))
    clear hsN hbx7 D7 hbx HS HA HDB HB HR6 HR5 M7 G9 X7 U7 HBD HU q4 HSN HMPS
    go_loopw [59] (fun v59 wq => ∃ j : Nat, j ≤ i ∧ v59 = .int .i64 j ∧ Hid (∀ y ∈ xs.take j, opNo y ≠ opNo x) ∧ Hid (Up W9 wq)) (fun v59 _ => i - (intOf v59).toNat)
    case atStart => exact ⟨0, by omega, rfl, (fun y h => by simp at h), Up.refl _⟩
    case round =>
      obtain ⟨j, hj, rfl, HNE, HU9⟩ := hrel
      by_cases hji : j < i
      case pos =>
        have hjx : j < xs.length := by rw [← HM.out]; omega
        have hjl : j < ((xs.take i).map aO).length := by rw [HLA.out]; exact hji
        obtain ⟨b6, o6, rfl, hp6⟩ := R9.out (by rintro h; rw [h] at hjl; simp at hjl)
        have g := rangeAt_up (hp6 j hjl) HU9.out
        have e0 : ((xs.take i).map aO)[j] = xs[j].a := by simp [aO]
        rw [e0] at g
        have hne2 : xs[j].a.o.no ≠ xn → ∀ y ∈ xs.take (j + 1), opNo y ≠ opNo x := fun hn y hy => by
          rcases mem_take_succ hjx hy with h | h
          · exact HNE.out y h
          · rw [h]; show xs[j].a.o.no ≠ x.a.o.no; rw [← HXN.out]; exact hn
        obtain ⟨y, hy⟩ : ∃ y, y = xs[j] := ⟨_, rfl⟩
        rw [← hy] at g hne2
        obtain ⟨yn, hyn⟩ : ∃ yn, yn = y.a.o.no := ⟨_, rfl⟩
        rw [← hyn] at hne2
        obtain ⟨Y, hY⟩ : ∃ Y, Y = (ofCells y.a).toArray := ⟨_, rfl⟩
        have HYs : Hid (Y.size = 6) := by show Y.size = 6; rw [hY]; rfl
        have HYc : Hid (Y.all (·.oneCell') = true) := by
          show Y.all (·.oneCell') = true
          rw [hY, Array.all_eq_true_iff_forall_mem]
          intro v hv
          exact ofCells_one _ v (by simpa using hv)
        have HY0 : Hid (Y[0]? = some (.int .i64 yn)) := by show _ = _; rw [hY, hyn]; rfl
        have G : Hid (wr.rangeAt b6 (o6 + j * 6) Y.toList) := by show wr.rangeAt _ _ _; rw [hY]; exact g
        have HNE2 := Lib.hid hne2
        have XR : Hid (wr.heap[bx]? = some (.cells B 44 (0, 0))) := (HU9.out.block _ (lt_of_block X9.out)).trans X9.out
        clear hY hyn hy e0 g hp6 hjl hjx hne2
        by_cases hyx : yn = xn
        case pos =>
          have d2 : (yn == xn) = true := by rw [hyx]; simp
          clear hyx HNE2
          go_wp2_with (first | ((with_reducible show wpList _ _ _ (Oper.mk _ (Op.load _ (Operand.tmp 61)) _ _ _ _ :: _) _ _); refine wpList_load_arr rfl 26 (.tmp 61) rfl b6 (o6 + j * 6) rfl Y _ G.out rfl rfl (by rw [HYs.out]; rfl) ?_) | ((with_reducible show wpList _ _ _ (Oper.mk _ (Op.store _ (Operand.tmp 13) (Operand.tmp 62)) _ _ _ _ :: _) _ _); refine wpList_store_row rfl 26 (.tmp 13) (.tmp 62) rfl _ Y rfl rfl 26 _ (heap_new rfl) (by rw [HYs.out]; rfl) (by rw [HYs.out]; rfl) HYc.out ?_; refine wpList_named ?_; intro W5 hW5; have u5 : Up wr W5 := (by rw [hW5]; exact below_setRow ((Up.refl wr).alloc _) (Nat.le_refl _) _); have x5 : W5.heap[wr.heap.size]? = some (.cells Y 26 (0, 0)) := (by rw [hW5]; exact setRow_heap _ _ _ _ _ _ (heap_new rfl)); (have l0 : W5.cell? ⟨wr.heap.size, 0, none⟩ = some (.int .i64 yn) := (cell_of_row W5 _ 0 _ _ _ x5).trans HY0.out); (have l1 : W5.cell? ⟨bx, 0, none⟩ = some (.int .i64 xn) := (cell_of_row W5 bx 0 _ _ _ ((u5.block _ (lt_of_block XR.out)).trans XR.out)).trans HB0.out); have U5 := Lib.hid u5; have X5 := Lib.hid x5; clear hW5 u5 x5))
          go_ret
          exact ⟨rfl, Up.trans HUW.out (Up.trans HU9.out U5.out)⟩
        have d2 : (yn == xn) = false := by rw [beq_eq_false_iff_ne]; exact hyx
        have HNE3 := Lib.hid (HNE2.out hyx)
        clear hyx HNE2
        go_wp2_with (first | ((with_reducible show wpList _ _ _ (Oper.mk _ (Op.load _ (Operand.tmp 61)) _ _ _ _ :: _) _ _); refine wpList_load_arr rfl 26 (.tmp 61) rfl b6 (o6 + j * 6) rfl Y _ G.out rfl rfl (by rw [HYs.out]; rfl) ?_) | ((with_reducible show wpList _ _ _ (Oper.mk _ (Op.store _ (Operand.tmp 13) (Operand.tmp 62)) _ _ _ _ :: _) _ _); refine wpList_store_row rfl 26 (.tmp 13) (.tmp 62) rfl _ Y rfl rfl 26 _ (heap_new rfl) (by rw [HYs.out]; rfl) (by rw [HYs.out]; rfl) HYc.out ?_; refine wpList_named ?_; intro W5 hW5; have u5 : Up wr W5 := (by rw [hW5]; exact below_setRow ((Up.refl wr).alloc _) (Nat.le_refl _) _); have x5 : W5.heap[wr.heap.size]? = some (.cells Y 26 (0, 0)) := (by rw [hW5]; exact setRow_heap _ _ _ _ _ _ (heap_new rfl)); (have l0 : W5.cell? ⟨wr.heap.size, 0, none⟩ = some (.int .i64 yn) := (cell_of_row W5 _ 0 _ _ _ x5).trans HY0.out); (have l1 : W5.cell? ⟨bx, 0, none⟩ = some (.int .i64 xn) := (cell_of_row W5 bx 0 _ _ _ ((u5.block _ (lt_of_block XR.out)).trans XR.out)).trans HB0.out); have U5 := Lib.hid u5; have X5 := Lib.hid x5; clear hW5 u5 x5))
        exact ⟨⟨j + 1, by omega, by go_num, HNE3, Up.trans HU9.out U5.out⟩, by simp [intOf]; omega⟩
      have hji' : j = i := by omega
      subst hji'
      have HOK2 : Hid (AllOk (xs.take (j + 1))) := by
        show AllOk _
        rw [HTK.out]
        exact HOK.out.snoc HE0.out (by rw [← HDD.out]; exact HNIN.out) HNE.out
      have XU := HU9.out
      have SI0 : Hid (SI wr wr b7 bx B (.slice q5 j c5) (.slice q6 j c6) SS ((xs.take j).map aO) (SS ++ [sN]) (j + 1) (strB ((xs.take j).map dgO ++ [D]))) := ⟨Below.refl _ _, (XU.block _ (lt_of_block X9.out)).trans X9.out, S9.out.up XU, A9.out.up XU, (fun s hs => by
        rcases List.mem_append.1 hs with h | h
        · exact (DB9.out s h).up XU
        · rw [List.mem_singleton.1 h]; exact D9.out.up XU), M9.out.up XU⟩
      have EQA : Hid ((xs.take j).map aO ++ [x.a] = (xs.take (j + 1)).map aO) := by show _ = _; rw [HTK.out, List.map_append]; rfl
      have EQD : Hid ((xs.take j).map dgO ++ [D] = (xs.take (j + 1)).map dgO) := by show _ = _; rw [HTK.out, List.map_append, HDD.out]; rfl
      have EQS : Hid ((SS ++ [sN]).map slKey = (xs.take (j + 1)).map kfO) := by show _ = _; rw [HTK.out, List.map_append, List.map_append, HSK.out, HSNw.out, HDD.out]; rfl
      have BW : Hid (Below b7 W3 wr) := B9.out.trans (Up.below2 XU (Nat.le_of_lt M9.out.lt))
      have LSS : Hid (SS.length ≤ 20) := by have := H20'.out; show _ ≤ _; rw [HLS.out]; omega
      have LAA : Hid (((xs.take j).map aO).length ≤ 20) := by have := H20'.out; show _ ≤ _; rw [HLA.out]; omega
      have DSE : Hid (#[Value.int .i64 xf, Value.slice (some ⟨bd, 0, none⟩) 32 32].toList = fl slCells [sN]) := by show _ = _; rw [HSNw.out]; simp [fl, slCells, HXF.out, HDL.out]
      have DOE : Hid (A.toList = fl ofCells [x.a]) := by show _ = _; rw [HAA.out]; simp [fl]
      obtain ⟨iS, zS, his, hzs, hs1, -, -⟩ := eltSealA.info
      obtain ⟨iO, zO, hio, hzo, ho1, -, -⟩ := eltOff.info
      have HIS := Lib.hid his
      have HZS := Lib.hid hzs
      have HIS1 := Lib.hid hs1
      have HIO := Lib.hid hio
      have HZO := Lib.hid hzo
      have HIO1 := Lib.hid ho1
      have l2 : wr.cell? ⟨bx, 0, none⟩ = some (.int .i64 xn) := (cell_of_row wr bx 0 _ _ _ SI0.out.op).trans HB0.out
      clear XU his hzs hs1 hio hzo ho1 X9 S9 A9 DB9 D9 M9 B9 R9 HU9 HNE HSK HOK HNIN HE0 HDD HSNw HTK HXF HXN HLA HLS HUW
      go_wp2_with fail
      refine wp_region_scr_at (.still 0 (.still 1 (.still 2 (.still 3 (.still 4 (.still 5 (.still 8 (.still 9 (.still 10 (.two 6 (.two 7 (.one 11 (.one 12 (.still 13 (.still 14 .nil)))) 11 (.one 7 (.one 12 (.still 13 (.still 14 .nil))))) 11 (.one 6 (.one 7 (.one 12 (.still 13 (.still 14 .nil))))))))))))))) (by kernel_rfl) (by kernel_rfl) (fun _ _ d _ _ h => by cases d <;> exact h) ?_
      intro W6 u6 hW6
      have SI1 : Hid (SI W6 W6 b7 bx B (.slice q5 j c5) (.slice q6 j c6) SS ((xs.take j).map aO) (SS ++ [sN]) (j + 1) (strB ((xs.take j).map dgO ++ [D]))) := { SI0.out.up u6 with bel := Below.refl _ _ }
      have BW6 : Hid (Below b7 W3 W6) := BW.out.trans (Up.below2 u6 SI0.out.size)
      clear u6 hW6 SI0 BW l2
      obtain ⟨C, hC⟩ : ∃ C : World → Prop, C = fun W' => Below b7 W6 W' ∧ W'.heap[bx]? = some (.cells B 44 (0, 0)) := ⟨_, rfl⟩
      have CI : Hid (∀ W', Below b7 W6 W' → W'.heap[bx]? = some (.cells B 44 (0, 0)) → C W') := fun W' h1 h2 => by rw [hC]; exact ⟨h1, h2⟩
      have CX : Hid (∀ W', C W' → W'.heap[bx]? = some (.cells B 44 (0, 0))) := fun W' h => by rw [hC] at h; exact h.2
      have c0 : C W6 := CI.out _ SI1.out.bel SI1.out.op
      clear hC
      refine ⟨C, c0, ?_⟩
      haveI : Nonempty (InC C) := ⟨⟨W6, c0⟩⟩
      have hcf : ∀ a : InC C, a.w.cell? ⟨bx, 1, none⟩ = some (.int .i64 xf) := fun a => (cell_of_row a.w bx 1 _ _ _ (CX.out _ a.h)).trans HB1.out
      refine wpScr_still rfl (fun K hK => ?_); go_simp; refine hK _ ?_; clear hK K
      refine wpScr_still rfl (fun K hK => ?_); go_simp; refine hK _ ?_; clear hK K
      refine wpScr_still rfl (fun K hK => ?_); go_simp; refine hK _ ?_; clear hK K
      refine wpScr_still rfl (fun K hK => ?_)
      go_simp
      first | (refine hK _ ?_) | (refine ⟨.int .i64 xf, fun a => ?q, ?_⟩; (case q => rw [hcf a]; exact ⟨rfl, rfl⟩); refine hK _ ?_)
      clear hK K
      refine wpScr_still rfl (fun K hK => ?_); go_simp; refine hK _ ?_; clear hK K
      refine wpScr_still rfl (fun K hK => ?_); go_simp; refine hK _ ?_; clear hK K
      refine wpScr_still rfl (fun K hK => ?_); go_simp; refine hK _ ?_; clear hK K
      refine wpScr_still rfl (fun K hK => ?_); go_simp; refine hK _ ?_; clear hK K
      refine wpScr_still_arr rfl (by rfl) 26 (.tmp 79) rfl bx 0 rfl A _ (fun w' hw' => by
        obtain ⟨z, rfl⟩ := hw'
        exact rangeAt_part (CX.out _ z.h) 0 A HBA.out) rfl rfl (by rw [HAs.out]; rfl) ?_
      clear c0 hcf
      refine ⟨?_, ?_⟩
      · refine stepScr_want rfl rfl (fun K hK => ?_)
        refine wp_buildSlice 34 52 1 #[(0, .tmp 75)] rfl #[Value.int .i64 xf, Value.slice (some ⟨bd, 0, none⟩) 32 32] iS zS rfl HIS.out HZS.out (by rw [HIS1.out]; decide) (by rw [HIS1.out]; decide) (by (simp only [List.map_toArray, List.map_cons, List.map_nil]; exact fill_row (zz := zS) HIS1.out (by omega) _ rfl)) ?_
        obtain ⟨g1, hg⟩ : ∃ b, b = W6.heap.size := ⟨_, rfl⟩
        obtain ⟨V1, hV⟩ : ∃ V, V = W6.alloc (.cells #[Value.int .i64 xf, Value.slice (some ⟨bd, 0, none⟩) 32 32] 52 (0, 0)) := ⟨_, rfl⟩
        rw [← hg, ← hV]
        have XL1 : Hid (V1.heap[g1]? = some (.cells #[Value.int .i64 xf, Value.slice (some ⟨bd, 0, none⟩) 32 32] 52 (0, 0))) := by show _ = _; rw [hV]; exact heap_new hg
        have uu : Up W6 V1 := by rw [hV]; exact (Up.refl _).alloc _
        have SI_1 := Lib.hid (SI1.out.up uu)
        refine hK _ _ (inC (CI.out _ SI_1.out.bel SI_1.out.op)) ?_
        clear hK K hV hg uu
        refine ⟨?_, ?_⟩
        · refine stepScr_want rfl rfl (fun K hK => ?_)
          refine wp_appR (.tmp 70) (.tmp 76) eltSealA (by omega) rfl rfl b7 _ SS (some ⟨g1, 0, none⟩) 1 1 [sN] rfl rfl rfl (fun x _ => slCells_len x) (fun x _ => slCells_one x) SI_1.out.os (rowAt_block (fun _ _ => slCells_len _) DSE.out XL1.out) ?l1 SI_1.out.size ?_
          case l1 => (have := LSS.out; simp only [List.length_cons, List.length_nil] at this ⊢; omega)
          intro p2 m2 d2 V2 o b gg
          have SI_2 := Lib.hid (SI_1.out.appS o b gg)
          refine hK _ _ (inC (CI.out _ SI_2.out.bel SI_2.out.op)) ?_
          clear hK K o b gg
          refine stepScr_want rfl rfl (fun K hK => ?_)
          refine wp_buildSlice 37 26 1 #[(0, .tmp 80)] rfl A iO zO rfl HIO.out HZO.out (by rw [HIO1.out]; decide) (by rw [HIO1.out]; decide) (by (simp only [List.map_toArray, List.map_cons, List.map_nil]; exact fill_row (zz := zO) HIO1.out (by omega) _ HAs.out)) ?_
          obtain ⟨g3, hg⟩ : ∃ b, b = V2.heap.size := ⟨_, rfl⟩
          obtain ⟨V3, hV⟩ : ∃ V, V = V2.alloc (.cells A 26 (0, 0)) := ⟨_, rfl⟩
          rw [← hg, ← hV]
          have XL3 : Hid (V3.heap[g3]? = some (.cells A 26 (0, 0))) := by show _ = _; rw [hV]; exact heap_new hg
          have uu : Up V2 V3 := by rw [hV]; exact (Up.refl _).alloc _
          have SI_3 := Lib.hid (SI_2.out.up uu)
          refine hK _ _ (inC (CI.out _ SI_3.out.bel SI_3.out.op)) ?_
          clear hK K hV hg uu
          refine stepScr_want rfl rfl (fun K hK => ?_)
          refine wp_appR (.tmp 78) (.tmp 81) eltOff (by omega) rfl rfl b7 _ ((xs.take j).map aO) (some ⟨g3, 0, none⟩) 1 1 [x.a] rfl rfl rfl (fun x _ => ofCells_len x) (fun x _ => ofCells_one x) SI_3.out.oa (rowAt_block (fun _ _ => ofCells_len _) DOE.out XL3.out) ?l1 SI_3.out.size ?_
          case l1 => (have := LAA.out; simp only [List.length_cons, List.length_nil] at this ⊢; omega)
          intro p4 m4 d4 V4 o b gg
          have SI_4 := Lib.hid (SI_3.out.appA o b gg)
          refine hK _ _ (inC (CI.out _ SI_4.out.bel SI_4.out.op)) ?_
          clear hK K o b gg
          repeat (refine wpScr_still rfl (fun K hK => ?_); go_simp; refine hK _ ?_; clear hK K)
          refine wpScr_nil ?_
          clear CX CI
          go_wp2_with fail
          exact ⟨⟨SS ++ [sN], j + 1, by omega, by go_num, SI_4.out.os, (by have := SI_4.out.oa; rwa [EQA.out] at this), EQS.out, SI_4.out.db, (by have := SI_4.out.mp; rwa [EQD.out] at this), HOK2.out, BW6.out.trans SI_4.out.bel, (fun _ => H20'.out)⟩, by simp [intOf]; omega⟩
        · refine stepScr_want rfl rfl (fun K hK => ?_)
          refine wp_buildSlice 37 26 1 #[(0, .tmp 80)] rfl A iO zO rfl HIO.out HZO.out (by rw [HIO1.out]; decide) (by rw [HIO1.out]; decide) (by (simp only [List.map_toArray, List.map_cons, List.map_nil]; exact fill_row (zz := zO) HIO1.out (by omega) _ HAs.out)) ?_
          obtain ⟨g5, hg⟩ : ∃ b, b = V1.heap.size := ⟨_, rfl⟩
          obtain ⟨V5, hV⟩ : ∃ V, V = V1.alloc (.cells A 26 (0, 0)) := ⟨_, rfl⟩
          rw [← hg, ← hV]
          have XL5 : Hid (V5.heap[g5]? = some (.cells A 26 (0, 0))) := by show _ = _; rw [hV]; exact heap_new hg
          have uu : Up V1 V5 := by rw [hV]; exact (Up.refl _).alloc _
          have SI_5 := Lib.hid (SI_1.out.up uu)
          have XK5 := Lib.hid ((uu.block _ (lt_of_block XL1.out)).trans XL1.out)
          refine hK _ _ (inC (CI.out _ SI_5.out.bel SI_5.out.op)) ?_
          clear hK K hV hg uu
          refine stepScr_want rfl rfl (fun K hK => ?_)
          refine wp_appR (.tmp 70) (.tmp 76) eltSealA (by omega) rfl rfl b7 _ SS (some ⟨g1, 0, none⟩) 1 1 [sN] rfl rfl rfl (fun x _ => slCells_len x) (fun x _ => slCells_one x) SI_5.out.os (rowAt_block (fun _ _ => slCells_len _) DSE.out XK5.out) ?l1 SI_5.out.size ?_
          case l1 => (have := LSS.out; simp only [List.length_cons, List.length_nil] at this ⊢; omega)
          intro p6 m6 d6 V6 o b gg
          have SI_6 := Lib.hid (SI_5.out.appS o b gg)
          have XK6 := Lib.hid (blk_app XL5.out SI_5.out.os gg (by decide))
          refine hK _ _ (inC (CI.out _ SI_6.out.bel SI_6.out.op)) ?_
          clear hK K o b gg
          refine stepScr_want rfl rfl (fun K hK => ?_)
          refine wp_appR (.tmp 78) (.tmp 81) eltOff (by omega) rfl rfl b7 _ ((xs.take j).map aO) (some ⟨g5, 0, none⟩) 1 1 [x.a] rfl rfl rfl (fun x _ => ofCells_len x) (fun x _ => ofCells_one x) SI_6.out.oa (rowAt_block (fun _ _ => ofCells_len _) DOE.out XK6.out) ?l1 SI_6.out.size ?_
          case l1 => (have := LAA.out; simp only [List.length_cons, List.length_nil] at this ⊢; omega)
          intro p7 m7 d7 V7 o b gg
          have SI_7 := Lib.hid (SI_6.out.appA o b gg)
          refine hK _ _ (inC (CI.out _ SI_7.out.bel SI_7.out.op)) ?_
          clear hK K o b gg
          repeat (refine wpScr_still rfl (fun K hK => ?_); go_simp; refine hK _ ?_; clear hK K)
          refine wpScr_nil ?_
          clear CX CI
          go_wp2_with fail
          exact ⟨⟨SS ++ [sN], j + 1, by omega, by go_num, SI_7.out.os, (by have := SI_7.out.oa; rwa [EQA.out] at this), EQS.out, SI_7.out.db, (by have := SI_7.out.mp; rwa [EQD.out] at this), HOK2.out, BW6.out.trans SI_7.out.bel, (fun _ => H20'.out)⟩, by simp [intOf]; omega⟩
      · refine stepScr_want rfl rfl (fun K hK => ?_)
        refine wp_buildSlice 37 26 1 #[(0, .tmp 80)] rfl A iO zO rfl HIO.out HZO.out (by rw [HIO1.out]; decide) (by rw [HIO1.out]; decide) (by (simp only [List.map_toArray, List.map_cons, List.map_nil]; exact fill_row (zz := zO) HIO1.out (by omega) _ HAs.out)) ?_
        obtain ⟨g8, hg⟩ : ∃ b, b = W6.heap.size := ⟨_, rfl⟩
        obtain ⟨V8, hV⟩ : ∃ V, V = W6.alloc (.cells A 26 (0, 0)) := ⟨_, rfl⟩
        rw [← hg, ← hV]
        have XL8 : Hid (V8.heap[g8]? = some (.cells A 26 (0, 0))) := by show _ = _; rw [hV]; exact heap_new hg
        have uu : Up W6 V8 := by rw [hV]; exact (Up.refl _).alloc _
        have SI_8 := Lib.hid (SI1.out.up uu)
        refine hK _ _ (inC (CI.out _ SI_8.out.bel SI_8.out.op)) ?_
        clear hK K hV hg uu
        refine stepScr_want rfl rfl (fun K hK => ?_)
        refine wp_buildSlice 34 52 1 #[(0, .tmp 75)] rfl #[Value.int .i64 xf, Value.slice (some ⟨bd, 0, none⟩) 32 32] iS zS rfl HIS.out HZS.out (by rw [HIS1.out]; decide) (by rw [HIS1.out]; decide) (by (simp only [List.map_toArray, List.map_cons, List.map_nil]; exact fill_row (zz := zS) HIS1.out (by omega) _ rfl)) ?_
        obtain ⟨g9, hg⟩ : ∃ b, b = V8.heap.size := ⟨_, rfl⟩
        obtain ⟨V9, hV⟩ : ∃ V, V = V8.alloc (.cells #[Value.int .i64 xf, Value.slice (some ⟨bd, 0, none⟩) 32 32] 52 (0, 0)) := ⟨_, rfl⟩
        rw [← hg, ← hV]
        have XL9 : Hid (V9.heap[g9]? = some (.cells #[Value.int .i64 xf, Value.slice (some ⟨bd, 0, none⟩) 32 32] 52 (0, 0))) := by show _ = _; rw [hV]; exact heap_new hg
        have uu : Up V8 V9 := by rw [hV]; exact (Up.refl _).alloc _
        have SI_9 := Lib.hid (SI_8.out.up uu)
        have XK9 := Lib.hid ((uu.block _ (lt_of_block XL8.out)).trans XL8.out)
        refine hK _ _ (inC (CI.out _ SI_9.out.bel SI_9.out.op)) ?_
        clear hK K hV hg uu
        refine stepScr_want rfl rfl (fun K hK => ?_)
        refine wp_appR (.tmp 70) (.tmp 76) eltSealA (by omega) rfl rfl b7 _ SS (some ⟨g9, 0, none⟩) 1 1 [sN] rfl rfl rfl (fun x _ => slCells_len x) (fun x _ => slCells_one x) SI_9.out.os (rowAt_block (fun _ _ => slCells_len _) DSE.out XL9.out) ?l1 SI_9.out.size ?_
        case l1 => (have := LSS.out; simp only [List.length_cons, List.length_nil] at this ⊢; omega)
        intro p10 m10 d10 V10 o b gg
        have SI_10 := Lib.hid (SI_9.out.appS o b gg)
        have XK10 := Lib.hid (blk_app XK9.out SI_9.out.os gg (by decide))
        refine hK _ _ (inC (CI.out _ SI_10.out.bel SI_10.out.op)) ?_
        clear hK K o b gg
        refine stepScr_want rfl rfl (fun K hK => ?_)
        refine wp_appR (.tmp 78) (.tmp 81) eltOff (by omega) rfl rfl b7 _ ((xs.take j).map aO) (some ⟨g8, 0, none⟩) 1 1 [x.a] rfl rfl rfl (fun x _ => ofCells_len x) (fun x _ => ofCells_one x) SI_10.out.oa (rowAt_block (fun _ _ => ofCells_len _) DOE.out XK10.out) ?l1 SI_10.out.size ?_
        case l1 => (have := LAA.out; simp only [List.length_cons, List.length_nil] at this ⊢; omega)
        intro p11 m11 d11 V11 o b gg
        have SI_11 := Lib.hid (SI_10.out.appA o b gg)
        refine hK _ _ (inC (CI.out _ SI_11.out.bel SI_11.out.op)) ?_
        clear hK K o b gg
        repeat (refine wpScr_still rfl (fun K hK => ?_); go_simp; refine hK _ ?_; clear hK K)
        refine wpScr_nil ?_
        clear CX CI
        go_wp2_with fail
        exact ⟨⟨SS ++ [sN], j + 1, by omega, by go_num, SI_11.out.os, (by have := SI_11.out.oa; rwa [EQA.out] at this), EQS.out, SI_11.out.db, (by have := SI_11.out.mp; rwa [EQD.out] at this), HOK2.out, BW6.out.trans SI_11.out.bel, (fun _ => H20'.out)⟩, by simp [intOf]; omega⟩

end Go.Proofs.YtmifpokafaiebaaDoor
