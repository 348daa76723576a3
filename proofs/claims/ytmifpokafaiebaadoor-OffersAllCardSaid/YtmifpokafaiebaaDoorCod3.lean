/- THE WALKS OF PACKAGE codec, 3: newWriter, and what the writer's function for lists does. -/
import Derived.Test.YtmifpokafaiebaaDoorCod2
import Derived.Laws.EntriesVeiled
namespace Go.Proofs.YtmifpokafaiebaaDoor
open Go.RowKit
set_option linter.unusedVariables false
set_option maxRecDepth 100000

/-- the writer lies at bw, the variable that its function for lists captured at bv -/
def Writer (w : World) (bw bv : Nat) : Prop :=
  w.heap[bw]? = some (.cells #[.nilFunc, .func (.func 58) #[] #[], .func (.func 61) #[] #[], .func (.func 62) #[] #[.pointer (some ⟨bv, 0, none⟩)]] 104 (0, 0)) ∧
  w.heap[bv]? = some (.cells #[.pointer (some ⟨bw, 0, none⟩)] 88 (0, 0))

set_option maxRecDepth 100000 in
set_option maxHeartbeats 1000000 in
theorem newWriter_calls (w : World) :
    Calls Tryd.prog 48 #[] w fun e w' => e = .returned (.pointer (some ⟨w.heap.size, 0, none⟩)) ∧ Up w w' ∧ Writer w' w.heap.size (w.heap.size + 1) ∧ w'.heap.size = w.heap.size + 2 := by
  have hmf : ∀ (fn : Fn) (first cap : Array Value) (w : World), (Instr.makeFunc fn first cap).run Tryd.prog w = .ok (.func fn first cap) w := fun _ _ _ _ => rfl
  go_enter Tryd.func48, Tryd.ntmps48
  go_wp2
  go_ret
  refine ⟨rfl, ((Up.refl w).alloc _).alloc _, ⟨?_, ?_⟩, by simp⟩
  · rw [heap_old (by simp), heap_new rfl]
  · rw [heap_new (by simp)]

/-- the function that writes values of a kind -/
def wrFn (k : Int) : Nat := if k = 1 then 58 else if k = 2 then 61 else 62
def wrCap (k : Int) (bv : Nat) : Array Value := if k = 3 then #[.pointer (some ⟨bv, 0, none⟩)] else #[]

/-- in every world that keeps what lies below base: the function of kind k appends e for the value x -/
def WritesAs (w0 : World) (base bv : Nat) (k : Int) (x : Array Value) (e : List UInt8) : Prop :=
  ∀ (v : Value) (l : List UInt8) (W : World), Below base w0 W → Own W base v l → l.length + e.length ≤ 1000000000 → base ≤ W.heap.size →
    Calls Tryd.prog (wrFn k) (#[v, .agg x] ++ wrCap k bv) W fun e' W' => ∃ v', e' = .returned v' ∧ Own W' base v' (l ++ e) ∧ Below base W W' ∧ Grow W W' v v'

theorem writesInt (w0 : World) (base bv : Nat) (n : Int) (s : ByteArray) (sl : Value) (h1 : -9223372036854775808 ≤ n) (h2 : n ≤ 9223372036854775807) : WritesAs w0 base bv 1 (vCells 1 n s sl) (Enc.encI n) :=
  fun v l W _ ho hl hb => writeInt_calls base n s sl v l W h1 h2 ho (by omega) hb
theorem writesText (w0 : World) (base bv : Nat) (n : Int) (s : ByteArray) (sl : Value) (hs : s.size ≤ 1073741824) : WritesAs w0 base bv 2 (vCells 2 n s sl) (Enc.encT s.data.toList) :=
  fun v l W _ ho hl hb => writeText_calls base n s sl v l W hs ho (by omega) hb

/-- an element of a list: its kind, its cells, its encoding -/
structure El where
  k : Int
  n : Int
  s : ByteArray
  lp : Option Addr
  ln : Nat
  lc : Nat
  d : Nat
  e : List UInt8
def El.x (el : El) : Array Value := vCells el.k el.n el.s (.slice el.lp el.ln el.lc)
def El.ok (w0 : World) (base bv : Nat) (el : El) : Prop := (el.k = 1 ∨ el.k = 2 ∨ el.k = 3) ∧ WritesAs w0 base bv el.k el.x el.e
/-- the elements lie at p -/
def Els (w : World) (p : Option Addr) (els : List El) : Prop := els ≠ [] → ∃ b o, p = some ⟨b, o, none⟩ ∧ ∀ i (h : i < els.length),
  w.cell? ⟨b, o + i * 4, none⟩ = some (.int .i64 els[i].k) ∧ w.cell? ⟨b, o + i * 4 + 1, none⟩ = some (.int .i64 els[i].n) ∧ w.cell? ⟨b, o + i * 4 + 2, none⟩ = some (.string els[i].s) ∧ w.cell? ⟨b, o + i * 4 + 3, none⟩ = some (.slice els[i].lp els[i].ln els[i].lc)

def encEls (els : List El) : List UInt8 := (els.map El.e).flatten

set_option maxRecDepth 100000 in
set_option maxHeartbeats 1000000 in
theorem writeList_calls (w0 : World) (base bw bv : Nat) (hW : Writer w0 bw bv) (hbw : bw < base) (hbv : bv < base) (p : Option Addr) (cap : Nat) (els : List El) (n : Int) (s : ByteArray)
    (hels : ∀ el ∈ els, el.ok w0 base bv) (hmem : Els w0 p els) (hlow : ∀ b o, p = some ⟨b, o, none⟩ → b < base) (hlen : els.length ≤ 65536) (htot : (encEls els).length ≤ 268435456)
    (v : Value) (l : List UInt8) (w : World) (hbel : Below base w0 w) (ho : Own w base v l) (hl : l.length + (Enc.encL (els.map El.e)).length ≤ 1000000000) (hb : base ≤ w.heap.size) :
    Calls Tryd.prog 62 #[v, .agg (vCells 3 n s (.slice p els.length cap)), .pointer (some ⟨bv, 0, none⟩)] w fun e w' => ∃ v', e = .returned v' ∧ Own w' base v' (l ++ Enc.encL (els.map El.e)) ∧ Below base w w' ∧ Grow w w' v v' := by
  have O := Lib.hid ho
  have HBEL := Lib.hid hbel
  have HM := Lib.hid hmem
  have HL := Lib.hid hlow
  have HE := Lib.hid hels
  have HWR := Lib.hid hW
  have HT := Lib.hid htot
  clear ho hbel hmem hlow hels hW htot
  obtain ⟨m, hm⟩ : ∃ m, m = els.length := ⟨_, rfl⟩
  rw [← hm] at hlen
  rw [← hm]
  have hl2 : l.length + (1 + ((Enc.num m).length + (encEls els).length)) ≤ 1000000000 := by
    rw [Enc.encL, List.length_cons, List.length_append, List.length_map, ← hm] at hl
    rw [encEls]; omega
  clear hl
  have HMM := Lib.hid hm
  clear hm
  go_enter Tryd.func62, Tryd.ntmps62
  go_wp2_with fail
  obtain ⟨bx, hbx⟩ : ∃ bx, bx = w.heap.size := ⟨_, rfl⟩
  rw [← hbx]
  refine wp_region_mix_at [0, 3, 4, 5, 6] [1, 2, 7, 8] (by kernel_rfl) (by kernel_rfl) (fun _ _ d _ _ h => by cases d <;> exact h) ?_
  intro W u1 hWh
  refine ⟨fun W' => W.grownBy W' v.ownBlock, ⟨rfl, rfl, rfl, Nat.le_refl _, fun _ _ _ => rfl⟩, ?_⟩
  have hx : W.heap[bx]? = some (.cells (vCells 3 n s (.slice p m cap)) 64 (0, 0)) := by rw [hWh]; exact heap_new hbx
  have hxv : v.ownBlock ≠ some bx := fun e => by have := O.out.lt bx e; omega
  have K1 : ∀ x : InC (fun W' => W.grownBy W' v.ownBlock), x.w.cell? ⟨bx, 3, none⟩ = some (.slice p m cap) := fun x => by
    rw [cell_of_row x.w bx 3 _ _ _ ((x.h.block bx (lt_of_block hx) (fun e => hxv e.symm)).trans hx)]; rfl
  have U1 : Hid (Up w W) := Up.trans ((Up.refl w).alloc _) u1
  have hbW : base ≤ W.heap.size := Nat.le_trans hb U1.out.size
  have O1 : Hid (Own W base v l) := O.out.up U1.out
  have HX := Lib.hid hx
  have HXV := Lib.hid hxv
  have hbx1 : bx < W.heap.size := lt_of_block hx
  have HBX := Lib.hid hbx
  clear u1 hx hbx hWh hxv
  haveI : Nonempty (InC (fun W' => W.grownBy W' v.ownBlock)) := ⟨⟨W, ⟨rfl, rfl, rfl, Nat.le_refl _, fun _ _ _ => rfl⟩⟩⟩
  simp only [pick, List.getElem?_cons_zero, List.getElem?_cons_succ]
  have e1 : IntKind.u64.wrap (m : Int) = (m : Int) := by rw [IntKind.wrap_u64]; omega
  repeat (refine wpStillC_step (fun K hK => ?_); go_simp; refine hK _ ?_; clear hK K)
  refine wpStillC_nil ?_
  refine wpChain_step (fun K hK => ?_)
  go_simp
  refine hK _ _ (inC (World.grownBy_alloc W _ _)) ?_
  clear hK K
  refine wpChain_want rfl (fun K hK => ?_)
  refine wp_app1 (.tmp 8) (.tmp 9) rfl rfl base _ _ _ 3 rfl rfl rfl (by omega) O1.out (by omega) hbW ?_
  intro v2 W2 o2 b2 g2
  have O2 := Lib.hid o2
  have B2 := Lib.hid b2
  have G2 := Lib.hid g2
  refine hK _ _ (inC g2.grown) ?_
  clear hK K o2 b2 g2
  refine wpChain_step (fun K hK => ?_)
  go_simp
  refine (numeral_calls base m v2 (l ++ [UInt8.ofNat 3]) W2 (by omega) O2.out (by simp; omega) (Nat.le_trans hbW B2.out.size)).mono ?_
  rintro e w3 ⟨v3, rfl, o3, b3, g3⟩
  have G3 : Hid (Grow W w3 v v3) := Grow.trans G2.out g3
  have B3 : Hid (Below base W w3) := Below.trans B2.out b3
  have O3 := Lib.hid o3
  refine hK _ _ (inC G3.out.grown) ?_
  clear hK K o3 b3 g3
  refine wpChain_step (fun K hK => ?_)
  go_simp
  refine hK _ _ (inC G3.out.grown) ?_
  clear hK K K1 this
  refine wpChain_nil ?_
  have hx3 : w3.heap[bx]? = some (.cells (vCells 3 n s (.slice p m cap)) 64 (0, 0)) := (G3.out.block hbx1 HXV.out).trans HX.out
  have K3 : w3.cell? ⟨bx, 3, none⟩ = some (.slice p m cap) := by rw [cell_of_row w3 bx 3 _ _ _ hx3]; rfl
  clear hx3
  go_wp2_with fail
  have hS : Hid (Own w3 base v3 ((l ++ [UInt8.ofNat 3] ++ Enc.num m) ++ encEls (els.take 0))) := by simpa [encEls, Hid] using O3.out
  have hnm : ((l ++ [UInt8.ofNat 3]) ++ Enc.num m).length + (encEls els).length ≤ 1000000000 := by simp; omega
  obtain ⟨L0, hL0⟩ : ∃ L0, L0 = (l ++ [UInt8.ofNat 3]) ++ Enc.num m := ⟨_, rfl⟩
  rw [← hL0] at hS hnm
  have HL0 := Lib.hid hL0
  have hbel : Below base w0 W := Below.trans HBEL.out (U1.out.below.mono hb)
  have HBW := Lib.hid hbel
  clear hL0 K3 O3 O2 B2 G2 O1 hbel
  go_loopw [0, 7, 19] (fun vb _ vi wq => ∃ i : Nat, i ≤ m ∧ vi = .int .i64 i ∧ Hid (Own wq base vb (L0 ++ encEls (els.take i))) ∧ Hid (Below base W wq) ∧ Hid (Grow W wq v vb))
    (fun _ _ vi _ => m - (intOf vi).toNat)
  case atStart => exact ⟨0, by omega, rfl, hS, B3, G3⟩
  case round =>
    obtain ⟨i, hi, rfl, HO, HB, HG⟩ := hrel
    by_cases hlt : i < m
    · have hi2 : i < els.length := by rw [← HMM.out]; exact hlt
      obtain ⟨b, o, hp, hcells⟩ := HM.out (fun e => by rw [e] at hi2; simp at hi2)
      have hbb : b < base := HL.out b o hp
      obtain ⟨c0, c1, c2, c3⟩ := hcells i hi2
      have hok := HE.out els[i] (List.getElem_mem hi2)
      have hstep : encEls (els.take (i + 1)) = encEls (els.take i) ++ els[i].e := by
        rw [encEls, encEls, List.take_succ_eq_append_getElem hi2, List.map_append, List.flatten_append]; simp
      have hpre : (encEls (els.take i)).length + els[i].e.length ≤ (encEls els).length := by
        have : encEls els = encEls (els.take (i + 1)) ++ encEls (els.drop (i + 1)) := by
          rw [encEls, encEls, encEls, ← List.flatten_append, ← List.map_append, List.take_append_drop]
        rw [this, hstep, List.length_append, List.length_append]; omega
      have hb0 : Below base w0 wr := Below.trans HBW.out HB.out
      have hc : ∀ j v, w0.cell? ⟨b, j, none⟩ = some v → wr.cell? ⟨b, j, none⟩ = some v := fun j v h => (hb0.cell (p := ⟨b, j, none⟩) hbb).trans h
      replace c0 := hc _ _ c0
      replace c1 := hc _ _ c1
      replace c2 := hc _ _ c2
      replace c3 := hc _ _ c3
      obtain ⟨el, hel⟩ : ∃ el, el = els[i] := ⟨_, rfl⟩
      rw [← hel] at c0 c1 c2 c3 hok hstep hpre
      obtain ⟨k, n', s', lp', ln', lc', d', e'⟩ := el
      obtain ⟨hk, hwr⟩ := hok
      simp only at c0 c1 c2 c3 hk hwr hstep hpre
      have d0 : wr.cell? ⟨bv, 0, none⟩ = some (.pointer (some ⟨bw, 0, none⟩)) := by
        rw [hb0.cell (p := ⟨bv, 0, none⟩) hbv, cell_of_row w0 bv 0 _ _ _ HWR.out.2]; rfl
      have dw : ∀ j, wr.cell? ⟨bw, j, none⟩ = w0.cell? ⟨bw, j, none⟩ := fun j => hb0.cell (p := ⟨bw, j, none⟩) hbw
      have hw2 := HWR.out.1
      have hbr : base ≤ wr.heap.size := Nat.le_trans hbW HB.out.size
      have HSTEP := Lib.hid hstep
      have HP := Lib.hid hp
      have HB0 := Lib.hid hb0
      have HHW := Lib.hid hwr
      have HO2 := Lib.hid (HO.out.up ((Up.refl wr).alloc (.cells #[.int .i64 k, .int .i64 n', .string s', (.slice lp' ln' lc')] 64 (0, 0))))
      have hlL : (L0 ++ encEls (els.take i)).length + e'.length ≤ 1000000000 := by rw [List.length_append]; omega
      have HLL := Lib.hid hlL
      subst hp
      clear hstep hb0 hwr hcells hc hel hi2 hpre hlL
      rcases hk with rfl | rfl | rfl
      · have d1 : wr.cell? ⟨bw, 1, none⟩ = some (.func (.func 58) #[] #[]) := by rw [dw, cell_of_row w0 bw 1 _ _ _ hw2]; rfl
        have CC : Hid (∀ (W' : World), Up wr W' → Calls Tryd.prog 58 (#[u0, .agg #[.int .i64 1, .int .i64 n', .string s', (.slice lp' ln' lc')]] ++ #[]) W' fun r W2 => ∃ v', r = .returned v' ∧ Own W2 base v' ((L0 ++ encEls (els.take i)) ++ e') ∧ Below base W' W2 ∧ Grow W' W2 u0 v') := fun W' hu =>
          HHW.out u0 (L0 ++ encEls (els.take i)) W' (Below.trans HB0.out (Below.mono hu hbr)) (HO.out.up hu) HLL.out (Nat.le_trans hbr hu.size)
        clear hw2 dw
        go_wp2_with fail
        refine wp_named ?_
        intro W6 hW6
        obtain ⟨b6, hb6⟩ : ∃ b6, b6 = wr.heap.size := ⟨_, rfl⟩
        rw [← hb6]
        have u6 : Up wr W6 := by rw [hW6]; exact (Up.refl wr).alloc _
        have hx6 : W6.heap[b6]? = some (.cells #[.int .i64 1, .int .i64 n', .string s', .slice lp' ln' lc'] 64 (0, 0)) := by rw [hW6]; exact heap_new hb6
        have x0 := cell_of_row W6 b6 0 _ _ _ hx6
        have x1 := cell_of_row W6 b6 1 _ _ _ hx6
        have x2 := cell_of_row W6 b6 2 _ _ _ hx6
        have x3 := cell_of_row W6 b6 3 _ _ _ hx6
        simp only [List.getElem?_toArray, List.getElem?_cons_zero, List.getElem?_cons_succ] at x0 x1 x2 x3
        replace d0 := (u6.below.cell (p := ⟨bv, 0, none⟩) (show bv < wr.heap.size by omega)).trans d0
        replace d1 := (u6.below.cell (p := ⟨bw, _, none⟩) (show bw < wr.heap.size by omega)).trans d1
        have U6 := Lib.hid u6
        clear hW6 hb6 hx6 u6 c0 c1 c2 c3
        refine wp_region_drew_tail 9 (by kernel_rfl) (by kernel_rfl) ?_
        simp only [List.take_succ_cons, List.take_zero, List.drop_succ_cons, List.drop_zero]
        repeat (quiet_step (fail))
        refine wpQuiet_nil ?_
        rintro wd ⟨nd, hwd⟩
        have hu : Up wr wd := by rw [hwd]; exact U6.out.drewN nd
        have HU := Lib.hid hu
        clear hwd hu x0 x1 x2 x3 d0 d1
        go_wp2_with fail
        refine (CC.out wd HU.out).mono ?_
        rintro r w5 ⟨v5, rfl, o5, b5, g5⟩
        have O5 := Lib.hid o5
        have B5 := Lib.hid b5
        have G5 := Lib.hid g5
        clear o5 b5 g5
        go_wp2_with fail
        refine ⟨⟨i + 1, by omega, by go_num, ?_, Below.trans HB.out (Below.trans (Below.mono HU.out hbr) B5.out), Grow.trans HG.out (G5.out.up HU.out)⟩, by simp [intOf]; omega⟩
        show Own _ _ _ _
        rw [HSTEP.out, ← List.append_assoc]
        exact O5.out
      · have d1 : wr.cell? ⟨bw, 2, none⟩ = some (.func (.func 61) #[] #[]) := by rw [dw, cell_of_row w0 bw 2 _ _ _ hw2]; rfl
        have CC : Hid (∀ (W' : World), Up wr W' → Calls Tryd.prog 61 (#[u0, .agg #[.int .i64 2, .int .i64 n', .string s', (.slice lp' ln' lc')]] ++ #[]) W' fun r W2 => ∃ v', r = .returned v' ∧ Own W2 base v' ((L0 ++ encEls (els.take i)) ++ e') ∧ Below base W' W2 ∧ Grow W' W2 u0 v') := fun W' hu =>
          HHW.out u0 (L0 ++ encEls (els.take i)) W' (Below.trans HB0.out (Below.mono hu hbr)) (HO.out.up hu) HLL.out (Nat.le_trans hbr hu.size)
        clear hw2 dw
        go_wp2_with fail
        refine wp_named ?_
        intro W6 hW6
        obtain ⟨b6, hb6⟩ : ∃ b6, b6 = wr.heap.size := ⟨_, rfl⟩
        rw [← hb6]
        have u6 : Up wr W6 := by rw [hW6]; exact (Up.refl wr).alloc _
        have hx6 : W6.heap[b6]? = some (.cells #[.int .i64 2, .int .i64 n', .string s', .slice lp' ln' lc'] 64 (0, 0)) := by rw [hW6]; exact heap_new hb6
        have x0 := cell_of_row W6 b6 0 _ _ _ hx6
        have x1 := cell_of_row W6 b6 1 _ _ _ hx6
        have x2 := cell_of_row W6 b6 2 _ _ _ hx6
        have x3 := cell_of_row W6 b6 3 _ _ _ hx6
        simp only [List.getElem?_toArray, List.getElem?_cons_zero, List.getElem?_cons_succ] at x0 x1 x2 x3
        replace d0 := (u6.below.cell (p := ⟨bv, 0, none⟩) (show bv < wr.heap.size by omega)).trans d0
        replace d1 := (u6.below.cell (p := ⟨bw, _, none⟩) (show bw < wr.heap.size by omega)).trans d1
        have U6 := Lib.hid u6
        clear hW6 hb6 hx6 u6 c0 c1 c2 c3
        refine wp_region_drew_tail 9 (by kernel_rfl) (by kernel_rfl) ?_
        simp only [List.take_succ_cons, List.take_zero, List.drop_succ_cons, List.drop_zero]
        repeat (quiet_step (fail))
        refine wpQuiet_nil ?_
        rintro wd ⟨nd, hwd⟩
        have hu : Up wr wd := by rw [hwd]; exact U6.out.drewN nd
        have HU := Lib.hid hu
        clear hwd hu x0 x1 x2 x3 d0 d1
        go_wp2_with fail
        refine (CC.out wd HU.out).mono ?_
        rintro r w5 ⟨v5, rfl, o5, b5, g5⟩
        have O5 := Lib.hid o5
        have B5 := Lib.hid b5
        have G5 := Lib.hid g5
        clear o5 b5 g5
        go_wp2_with fail
        refine ⟨⟨i + 1, by omega, by go_num, ?_, Below.trans HB.out (Below.trans (Below.mono HU.out hbr) B5.out), Grow.trans HG.out (G5.out.up HU.out)⟩, by simp [intOf]; omega⟩
        show Own _ _ _ _
        rw [HSTEP.out, ← List.append_assoc]
        exact O5.out
      · have d1 : wr.cell? ⟨bw, 3, none⟩ = some (.func (.func 62) #[] #[.pointer (some ⟨bv, 0, none⟩)]) := by rw [dw, cell_of_row w0 bw 3 _ _ _ hw2]; rfl
        have CC : Hid (∀ (W' : World), Up wr W' → Calls Tryd.prog 62 (#[u0, .agg #[.int .i64 3, .int .i64 n', .string s', (.slice lp' ln' lc')]] ++ #[.pointer (some ⟨bv, 0, none⟩)]) W' fun r W2 => ∃ v', r = .returned v' ∧ Own W2 base v' ((L0 ++ encEls (els.take i)) ++ e') ∧ Below base W' W2 ∧ Grow W' W2 u0 v') := fun W' hu =>
          HHW.out u0 (L0 ++ encEls (els.take i)) W' (Below.trans HB0.out (Below.mono hu hbr)) (HO.out.up hu) HLL.out (Nat.le_trans hbr hu.size)
        clear hw2 dw
        go_wp2_with fail
        refine wp_named ?_
        intro W6 hW6
        obtain ⟨b6, hb6⟩ : ∃ b6, b6 = wr.heap.size := ⟨_, rfl⟩
        rw [← hb6]
        have u6 : Up wr W6 := by rw [hW6]; exact (Up.refl wr).alloc _
        have hx6 : W6.heap[b6]? = some (.cells #[.int .i64 3, .int .i64 n', .string s', .slice lp' ln' lc'] 64 (0, 0)) := by rw [hW6]; exact heap_new hb6
        have x0 := cell_of_row W6 b6 0 _ _ _ hx6
        have x1 := cell_of_row W6 b6 1 _ _ _ hx6
        have x2 := cell_of_row W6 b6 2 _ _ _ hx6
        have x3 := cell_of_row W6 b6 3 _ _ _ hx6
        simp only [List.getElem?_toArray, List.getElem?_cons_zero, List.getElem?_cons_succ] at x0 x1 x2 x3
        replace d0 := (u6.below.cell (p := ⟨bv, 0, none⟩) (show bv < wr.heap.size by omega)).trans d0
        replace d1 := (u6.below.cell (p := ⟨bw, _, none⟩) (show bw < wr.heap.size by omega)).trans d1
        have U6 := Lib.hid u6
        clear hW6 hb6 hx6 u6 c0 c1 c2 c3
        refine wp_region_drew_tail 9 (by kernel_rfl) (by kernel_rfl) ?_
        simp only [List.take_succ_cons, List.take_zero, List.drop_succ_cons, List.drop_zero]
        repeat (quiet_step (fail))
        refine wpQuiet_nil ?_
        rintro wd ⟨nd, hwd⟩
        have hu : Up wr wd := by rw [hwd]; exact U6.out.drewN nd
        have HU := Lib.hid hu
        clear hwd hu x0 x1 x2 x3 d0 d1
        go_wp2_with fail
        refine (CC.out wd HU.out).mono ?_
        rintro r w5 ⟨v5, rfl, o5, b5, g5⟩
        have O5 := Lib.hid o5
        have B5 := Lib.hid b5
        have G5 := Lib.hid g5
        clear o5 b5 g5
        go_wp2_with fail
        refine ⟨⟨i + 1, by omega, by go_num, ?_, Below.trans HB.out (Below.trans (Below.mono HU.out hbr) B5.out), Grow.trans HG.out (G5.out.up HU.out)⟩, by simp [intOf]; omega⟩
        show Own _ _ _ _
        rw [HSTEP.out, ← List.append_assoc]
        exact O5.out
    · have him : i = m := by omega
      subst him
      have hfin : L0 ++ encEls (els.take i) = l ++ Enc.encL (els.map El.e) := by
        rw [HL0.out, HMM.out, List.take_length, encEls, Enc.encL, List.length_map]; simp
      have HFIN := Lib.hid hfin
      clear hfin
      go_wp2_with fail
      go_ret
      refine ⟨_, rfl, ?_, Below.trans (U1.out.below.mono hb) HB.out, HG.out.up U1.out⟩
      rw [← HFIN.out]
      exact HO.out

end Go.Proofs.YtmifpokafaiebaaDoor
