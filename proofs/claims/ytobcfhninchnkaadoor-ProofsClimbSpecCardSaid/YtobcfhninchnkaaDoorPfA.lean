/- SHARES AND SUMS: the words. proofs.in, fine, plus, leafText. proofs.leafText, plus. proofs.leaf. proofs.plus, nodeText. proofs.nodeText. proofs.node. -/
import Derived.Test.YtobcfhninchnkaaDoorArr
namespace Go.Proofs.YtobcfhninchnkaaDoor
open Go.RowKit
set_option linter.unusedVariables false
set_option maxRecDepth 100000

structure Sh where
  farm : Int
  litres : Int
  price : Int
  cut : Int
  salt : Int
deriving DecidableEq
structure Sm where
  hash : List UInt8
  litres : Int
  price : Int
  cut : Int
deriving DecidableEq
def i64In (n : Int) : Prop := -9223372036854775808 ≤ n ∧ n ≤ 9223372036854775807
structure Sh.wf (x : Sh) : Prop where
  farm : i64In x.farm
  litres : i64In x.litres
  price : i64In x.price
  cut : i64In x.cut
  salt : i64In x.salt
structure Sm.wf (s : Sm) : Prop where
  hash : s.hash.length = 32
  litres : i64In s.litres
  price : i64In s.price
  cut : i64In s.cut
def shCells (x : Sh) : Array Value := #[.int .i64 x.farm, .int .i64 x.litres, .int .i64 x.price, .int .i64 x.cut, .int .i64 x.salt]
def smCells (s : Sm) : List Value := u8s s.hash ++ [.int .i64 s.litres, .int .i64 s.price, .int .i64 s.cut]
theorem smCells_len {s : Sm} (h : s.hash.length = 32) : (smCells s).length = 35 := by simp [smCells, u8s_length, h]

/-! the texts, the leaf, the node -/
def bShare : ByteArray := ⟨#[115, 104, 97, 114, 101]⟩
def bSum : ByteArray := ⟨#[115, 117, 109]⟩
def leafIts (x : Sh) : List Enc.It := [.inr bShare, .inl x.farm, .inl x.litres, .inl x.price, .inl x.cut, .inl x.salt]
def nodeIts (s t : Sm) : List Enc.It := [.inr bSum, .inr (bsOf s.hash), .inl s.litres, .inl s.price, .inl s.cut, .inr (bsOf t.hash), .inl t.litres, .inl t.price, .inl t.cut]
def leafT (x : Sh) : List UInt8 := encIts (leafIts x)
def nodeT (s t : Sm) : List UInt8 := encIts (nodeIts s t)
def leafS (x : Sh) : Sm := ⟨Sha.sum (leafT x), x.litres, x.price, x.cut⟩
def nodeS (s t : Sm) : Sm := ⟨Sha.sum (nodeT s t), s.litres + t.litres, s.price + t.price, s.cut + t.cut⟩
theorem leafT_len (x : Sh) : (leafT x).length ≤ 2000 := by
  have h1 := Enc.encI_length x.farm
  have h2 := Enc.encI_length x.litres
  have h3 := Enc.encI_length x.price
  have h4 := Enc.encI_length x.cut
  have h5 := Enc.encI_length x.salt
  have h6 := Enc.encT_length bShare.data.toList
  have h7 : bShare.data.toList.length = 5 := rfl
  simp only [leafT, leafIts, encIts, Enc.encL, List.map_cons, List.map_nil, Enc.encIt, List.flatten_cons, List.flatten_nil, List.length_cons, List.length_append, List.length_nil]
  have h8 := Enc.num_length (0 + 1 + 1 + 1 + 1 + 1 + 1)
  omega
theorem nodeT_len {s t : Sm} (hs : s.hash.length = 32) (ht : t.hash.length = 32) : (nodeT s t).length ≤ 2000 := by
  have h1 := Enc.encI_length s.litres
  have h2 := Enc.encI_length s.price
  have h3 := Enc.encI_length s.cut
  have h4 := Enc.encI_length t.litres
  have h5 := Enc.encI_length t.price
  have h6 := Enc.encI_length t.cut
  have h7 := Enc.encT_length bSum.data.toList
  have h8 : bSum.data.toList.length = 3 := rfl
  have h9 := Enc.encT_length s.hash
  have h10 := Enc.encT_length t.hash
  simp only [nodeT, nodeIts, encIts, Enc.encL, List.map_cons, List.map_nil, Enc.encIt, List.flatten_cons, List.flatten_nil, List.length_cons, List.length_append, List.length_nil, bsOf_list]
  have h11 := Enc.num_length (0 + 1 + 1 + 1 + 1 + 1 + 1 + 1 + 1 + 1)
  omega
theorem leafIts_ok {x : Sh} (hx : x.wf) : ∀ i ∈ leafIts x, i.ok := by
  intro i hi
  simp only [leafIts, List.mem_cons, List.not_mem_nil, or_false] at hi
  rcases hi with rfl | rfl | rfl | rfl | rfl | rfl
  · show 5 ≤ 1048576; omega
  · exact hx.farm
  · exact hx.litres
  · exact hx.price
  · exact hx.cut
  · exact hx.salt
theorem nodeIts_ok {s t : Sm} (hs : s.wf) (ht : t.wf) : ∀ i ∈ nodeIts s t, i.ok := by
  intro i hi
  simp only [nodeIts, List.mem_cons, List.not_mem_nil, or_false] at hi
  have h1 := hs.hash
  have h2 := ht.hash
  rcases hi with rfl | rfl | rfl | rfl | rfl | rfl | rfl | rfl | rfl
  · show 3 ≤ 1048576; omega
  · show s.hash.length ≤ 1048576; omega
  · exact hs.litres
  · exact hs.price
  · exact hs.cut
  · show t.hash.length ≤ 1048576; omega
  · exact ht.litres
  · exact ht.price
  · exact ht.cut
theorem tot_of {xs : List Enc.It} (h : (encIts xs).length ≤ 2000) : (xs.map Enc.encIt).flatten.length ≤ 2000 := by
  have : (xs.map Enc.encIt).flatten.length ≤ (encIts xs).length := by simp [encIts, Enc.encL]; omega
  omega

/-! what is right -/
def inB (n m : Int) : Bool := decide (0 ≤ n ∧ n ≤ m)
def fineB (x : Sh) : Bool := inB x.farm 599 && inB x.litres 1099511627776 && inB x.price 1099511627776 && inB x.cut 1099511627776 && inB x.salt 1099511627776

theorem pin_calls (n m : Int) (w : World) : Calls Tryd.prog 34 #[.int .i64 n, .int .i64 m] w fun e w' => e = .returned (.bool (inB n m)) ∧ w' = w := by
  by_cases h1 : 0 ≤ n
  · by_cases h2 : n ≤ m
    · have hb : inB n m = true := by simp [inB, h1, h2]
      rw [hb]
      have d1 : decide ((0 : Int) ≤ n) = true := by simpa using h1
      have d2 : decide (n ≤ m) = true := by simpa using h2
      clear hb h1 h2
      go_enter Tryd.func34, Tryd.ntmps34
      go_wp2
      go_ret
      exact ⟨rfl, rfl⟩
    · have hb : inB n m = false := by simp [inB, h2]
      rw [hb]
      have d1 : decide ((0 : Int) ≤ n) = true := by simpa using h1
      have d2 : decide (n ≤ m) = false := by simpa using h2
      clear hb h1 h2
      go_enter Tryd.func34, Tryd.ntmps34
      go_wp2
      go_ret
      exact ⟨rfl, rfl⟩
  · have hb : inB n m = false := by simp [inB, h1]
    rw [hb]
    have d1 : decide ((0 : Int) ≤ n) = false := by simpa using h1
    clear hb h1
    go_enter Tryd.func34, Tryd.ntmps34
    go_wp2
    go_ret
    exact ⟨rfl, rfl⟩

set_option maxHeartbeats 1000000 in
theorem fine_calls (x : Sh) (w : World) : Calls Tryd.prog 31 #[.agg (shCells x)] w fun e w' => e = .returned (.bool (fineB x)) ∧ Up w w' := by
  obtain ⟨f, l, p, c, s⟩ := x
  unfold shCells fineB
  obtain ⟨b1, h1⟩ : ∃ b, b = inB f 599 := ⟨_, rfl⟩
  obtain ⟨b2, h2⟩ : ∃ b, b = inB l 1099511627776 := ⟨_, rfl⟩
  obtain ⟨b3, h3⟩ : ∃ b, b = inB p 1099511627776 := ⟨_, rfl⟩
  obtain ⟨b4, h4⟩ : ∃ b, b = inB c 1099511627776 := ⟨_, rfl⟩
  obtain ⟨b5, h5⟩ : ∃ b, b = inB s 1099511627776 := ⟨_, rfl⟩
  have I1 := Lib.hid fun w => pin_calls f 599 w
  have I2 := Lib.hid fun w => pin_calls l 1099511627776 w
  have I3 := Lib.hid fun w => pin_calls p 1099511627776 w
  have I4 := Lib.hid fun w => pin_calls c 1099511627776 w
  have I5 := Lib.hid fun w => pin_calls s 1099511627776 w
  simp only [← h1, ← h2, ← h3, ← h4, ← h5] at I1 I2 I3 I4 I5 ⊢
  clear h1 h2 h3 h4 h5
  go_enter Tryd.func31, Tryd.ntmps31
  go_wp2_with fail
  refine calls_nm ?_
  intro W hW
  have U : Hid (Up w W) := by show Up w W; rw [hW]; exact (Up.refl w).alloc _
  have q1 : W.cell? ⟨w.heap.size, 1, none⟩ = some (.int .i64 l) := by rw [hW]; exact cell_of_row _ _ _ _ _ _ (heap_new rfl)
  have q2 : W.cell? ⟨w.heap.size, 2, none⟩ = some (.int .i64 p) := by rw [hW]; exact cell_of_row _ _ _ _ _ _ (heap_new rfl)
  have q3 : W.cell? ⟨w.heap.size, 3, none⟩ = some (.int .i64 c) := by rw [hW]; exact cell_of_row _ _ _ _ _ _ (heap_new rfl)
  have q4 : W.cell? ⟨w.heap.size, 4, none⟩ = some (.int .i64 s) := by rw [hW]; exact cell_of_row _ _ _ _ _ _ (heap_new rfl)
  clear hW
  refine (I1.out W).mono ?_
  rintro e w1 ⟨rfl, rfl⟩
  cases b1
  case false =>
    go_wp2_with fail
    go_ret
    exact ⟨rfl, U.out⟩
  go_wp2_with fail
  refine (I2.out _).mono ?_
  rintro e w1 ⟨rfl, rfl⟩
  cases b2
  case false =>
    go_wp2_with fail
    go_ret
    exact ⟨rfl, U.out⟩
  go_wp2_with fail
  refine (I3.out _).mono ?_
  rintro e w1 ⟨rfl, rfl⟩
  cases b3
  case false =>
    go_wp2_with fail
    go_ret
    exact ⟨rfl, U.out⟩
  go_wp2_with fail
  refine (I4.out _).mono ?_
  rintro e w1 ⟨rfl, rfl⟩
  cases b4
  case false =>
    go_wp2_with fail
    go_ret
    exact ⟨rfl, U.out⟩
  go_wp2_with fail
  refine (I5.out _).mono ?_
  rintro e w1 ⟨rfl, rfl⟩
  go_wp2_with fail
  go_ret
  exact ⟨rfl, U.out⟩

end Go.Proofs.YtobcfhninchnkaaDoor

namespace Go.Proofs.YtobcfhninchnkaaDoor
open Go.RowKit
set_option linter.unusedVariables false
set_option maxRecDepth 100000

/-- bytes of one's own, returned -/
def RetB (w : World) (l : List UInt8) (e : Ending) (w' : World) : Prop := ∃ p c, e = .returned (.slice p l.length c) ∧ l.length ≤ c ∧ c ≤ maxLen ∧ SB w' p l ∧ Up w w'
/-- a row of bytes of one's own, returned -/
def RetO (w : World) (l : List UInt8) (e : Ending) (w' : World) : Prop := ∃ v, e = .returned v ∧ Own w' w.heap.size v l ∧ Up w w'
theorem RetO.b {w : World} {l : List UInt8} {e : Ending} {w' : World} (h : RetO w l e w') : RetB w l e w' := by
  obtain ⟨v, rfl, ho, hu⟩ := h
  obtain ⟨p, c, rfl, h1, h2, h3⟩ := ho.form
  exact ⟨p, c, rfl, h1, h2, h3, hu⟩

set_option maxHeartbeats 1000000 in
theorem leafText_callsO (x : Sh) (hx : x.wf) (w : World) : Calls Tryd.prog 56 #[.agg (shCells x)] w (RetO w (leafT x)) := by
  have HX := Lib.hid hx
  unfold shCells
  go_enter Tryd.func56, Tryd.ntmps56
  go_wp2_with fail
  refine calls_nm ?_
  intro W hW
  have U : Hid (Up w W) := by show Up w W; rw [hW]; exact ((Up.refl w).alloc _).alloc _
  have R : Hid (∃ t, W.heap[w.heap.size + 1]? = some (.cells #[.iface 9 (.string bShare), .iface 3 (.int .i64 x.farm), .iface 3 (.int .i64 x.litres), .iface 3 (.int .i64 x.price), .iface 3 (.int .i64 x.cut), .iface 3 (.int .i64 x.salt)] t (0, 0))) := by
    rw [hW]; exact ⟨_, heap_new (by simp)⟩
  clear hW
  refine (ptext_calls (w.heap.size + 1) 6 (leafIts x) W rfl (by omega) (leafIts_ok HX.out) ?_ (by have := tot_of (leafT_len x); omega)).mono ?_
  · intro i hi
    obtain ⟨t, hr⟩ := R.out
    have hi' : i < 6 := hi
    rcases i with _ | _ | _ | _ | _ | _ | i
    · exact ⟨_, cell_of_row W _ 0 _ _ _ hr, rfl⟩
    · exact ⟨_, cell_of_row W _ 1 _ _ _ hr, rfl⟩
    · exact ⟨_, cell_of_row W _ 2 _ _ _ hr, rfl⟩
    · exact ⟨_, cell_of_row W _ 3 _ _ _ hr, rfl⟩
    · exact ⟨_, cell_of_row W _ 4 _ _ _ hr, rfl⟩
    · exact ⟨_, cell_of_row W _ 5 _ _ _ hr, rfl⟩
    · omega
  rintro e w2 ⟨v, rfl, ho, hu⟩
  obtain ⟨p, c, rfl, h1, h2, h3⟩ := ho.form
  have U2 : Hid (Up w w2) := Up.trans U.out hu
  have HO := Lib.hid (ho.less U.out.size)
  clear ho hu h1 h2 h3
  go_wp2_with fail
  go_ret
  exact ⟨_, rfl, HO.out, U2.out⟩
theorem leafText_calls (x : Sh) (hx : x.wf) (w : World) : Calls Tryd.prog 56 #[.agg (shCells x)] w (RetB w (leafT x)) := (leafText_callsO x hx w).mono fun _ _ h => h.b

theorem allocsSum : Allocs Tryd.prog 28 35 := fun w =>
  ⟨(((Tryd.prog.info? 28).bind (·.zero)).getD undef).cells, by kernel_rfl, by kernel_rfl⟩

end Go.Proofs.YtobcfhninchnkaaDoor

namespace Go.Proofs.YtobcfhninchnkaaDoor
open Go.RowKit
set_option linter.unusedVariables false
set_option maxRecDepth 100000

theorem smCells_all (s : Sm) : (smCells s).toArray.all (·.oneCell') = true := by
  have h : ∀ v ∈ smCells s, v.oneCell' = true := by
    intro v hv
    rcases List.mem_append.1 hv with h | h
    · exact u8s_one _ v h
    · simp only [List.mem_cons, List.not_mem_nil, or_false] at h
      rcases h with rfl | rfl | rfl <;> rfl
  simpa [Array.all_eq_true'] using h
theorem built_sum (s : Sm) (hs : s.hash.length = 32) :
    Tryd.prog.built 28 [(0, .agg (u8s s.hash).toArray), (1, .int .i64 s.litres), (2, .int .i64 s.price), (3, .int .i64 s.cut)] = some (smCells s).toArray := by
  obtain ⟨hash, l, p, c⟩ := s
  simp only at hs ⊢
  match hash, hs with
  | [c0, c1, c2, c3, c4, c5, c6, c7, c8, c9, c10, c11, c12, c13, c14, c15, c16, c17, c18, c19, c20, c21, c22, c23, c24, c25, c26, c27, c28, c29, c30, c31], _ =>
    simp only [smCells, u8s, List.map_cons, List.map_nil, List.cons_append, List.nil_append]
    show _ = _
    kernel_rfl
theorem wp_buildTo {P : Program} {o : Oper} {a : Act} {w : World} {K : Act → World → Prop} {Q : Exit → Act → World → Prop} (t : TypeId) (parts : Array (Nat × Operand)) (ho : o.op = .build t parts)
    (cells : Array Value) (hf : P.built t (parts.map fun (i, x) => (i, a.eval x)).toList = some cells) (h : K (a.put o.dst (.agg cells)) w) : o.wp P a w K Q :=
  wp_build t parts ho (by rw [hf]; rfl) (by rw [hf]; exact h)

set_option maxHeartbeats 1000000 in
theorem leaf_calls (x : Sh) (hx : x.wf) (w : World) (htab : Tabs w) : Calls Tryd.prog 51 #[.agg (shCells x)] w fun e w' => e = .returned (.agg (smCells (leafS x)).toArray) ∧ Up w w' := by
  have HT := Lib.hid htab
  have hl : (Sha.sum (leafT x)).length = 32 := Sha.sum_length _
  have hB := built_sum (leafS x) hl
  have hDc := smCells_all (leafS x)
  have hDs : (smCells (leafS x)).toArray.size = 35 := by have := smCells_len (s := leafS x) hl; simpa using this
  obtain ⟨D, hD⟩ : ∃ D, D = (smCells (leafS x)).toArray := ⟨_, rfl⟩
  rw [← hD] at hB hDc hDs ⊢
  have SUM := Lib.hid fun w p c h1 h2 h3 (ht : Tabs w) => sum_calls p c (leafT x) w h1 h2 h3 ht.1 ht.2
  have LT := Lib.hid fun w => leafText_calls x hx w
  have e1 : (leafS x).hash = Sha.sum (leafT x) := rfl
  have e2 : (leafS x).litres = x.litres := rfl
  have e3 : (leafS x).price = x.price := rfl
  have e4 : (leafS x).cut = x.cut := rfl
  rw [e1, e2, e3, e4] at hB
  obtain ⟨S, hS⟩ : ∃ S, S = (u8s (Sha.sum (leafT x))).toArray := ⟨_, rfl⟩
  rw [← hS] at hB SUM
  have HB := Lib.hid hB
  have HDC := Lib.hid hDc
  have HDS := Lib.hid hDs
  clear hB hDc hDs hS hl e1 e2 e3 e4 hD htab hx
  unfold shCells at LT ⊢
  go_enter Tryd.func51, Tryd.ntmps51
  go_wp2_with ((first | (refine wpList_named ?_; intro W1 hW1; refine wpList_allocG rfl 28 35 allocsSum rfl ?_; intro W2 u2 z2 hz2; obtain ⟨Z2, hZ2, hb2⟩ := hz2; have HW1 := Lib.hid hW1; have U2 := Lib.hid u2; have HS2 := Lib.hid z2; have HZ2 := Lib.hid hZ2; have HB2 := Lib.hid hb2; clear u2 z2 hZ2 hb2 hW1)))
  obtain ⟨bx, hbx⟩ : ∃ b, b = w.heap.size := ⟨_, rfl⟩
  obtain ⟨bd, hbd⟩ : ∃ b, b = W1.heap.size := ⟨_, rfl⟩
  have e1 : bd = bx + 1 := by rw [hbd, HW1.out, hbx]; simp
  have X1 : W1.heap[bx]? = some (.cells #[.int .i64 x.farm, .int .i64 x.litres, .int .i64 x.price, .int .i64 x.cut, .int .i64 x.salt] 38 (0, 0)) := by rw [HW1.out]; exact heap_new hbx
  have X2 := (U2.out.block bx (lt_of_block X1)).trans X1
  have u2 : Up w W2 := Up.trans (by rw [HW1.out]; exact (Up.refl w).alloc _) U2.out
  have hb2 := HB2.out
  rw [← hbd] at hb2 ⊢
  rw [← hbx]
  have HB3 := Lib.hid hb2
  have X3 := Lib.hid X2
  have U3 := Lib.hid u2
  have HBX := Lib.hid hbx
  have HE := Lib.hid e1
  clear X1 X2 u2 hb2 HB2 U2 HS2 HW1 e1 hbd hbx
  refine wp_region_mix_at [0, 3, 4, 5, 6, 7, 8] [1, 2, 9, 10] (by kernel_rfl) (by kernel_rfl) (fun _ _ d _ _ h => by cases d <;> exact h) ?_
  intro W U hW
  obtain ⟨C, hC⟩ : ∃ C : World → Prop, C = fun W' => Up w W' ∧ W'.heap[bx]? = some (.cells #[.int .i64 x.farm, .int .i64 x.litres, .int .i64 x.price, .int .i64 x.cut, .int .i64 x.salt] 38 (0, 0)) := ⟨_, rfl⟩
  have CI : Hid (∀ W', Up w W' → W'.heap[bx]? = some (.cells #[.int .i64 x.farm, .int .i64 x.litres, .int .i64 x.price, .int .i64 x.cut, .int .i64 x.salt] 38 (0, 0)) → C W') := fun W' h1 h2 => by rw [hC]; exact ⟨h1, h2⟩
  have CO : Hid (∀ y : InC C, y.w.heap[bx]? = some (.cells #[.int .i64 x.farm, .int .i64 x.litres, .int .i64 x.price, .int .i64 x.cut, .int .i64 x.salt] 38 (0, 0))) := fun y => (Eq.mp (congrFun hC y.w) y.h).2
  have XW : Hid (W.heap[bx]? = some (.cells #[.int .i64 x.farm, .int .i64 x.litres, .int .i64 x.price, .int .i64 x.cut, .int .i64 x.salt] 38 (0, 0))) := by show _ = _; rw [hW]; exact X3.out
  have DW : Hid (W.heap[bd]? = some (.cells Z2 28 (0, 0))) := by show _ = _; rw [hW]; exact HB3.out
  have UW : Hid (Up w W) := Up.trans U3.out U
  have hCW := CI.out W UW.out XW.out
  refine ⟨C, hCW, ?_⟩
  haveI : Nonempty (InC C) := ⟨⟨W, hCW⟩⟩
  have k1 : ∀ y : InC C, y.w.cell? ⟨bx, 1, none⟩ = some (.int .i64 x.litres) := fun y => cell_of_row y.w bx 1 _ _ _ (CO.out y)
  have k2 : ∀ y : InC C, y.w.cell? ⟨bx, 2, none⟩ = some (.int .i64 x.price) := fun y => cell_of_row y.w bx 2 _ _ _ (CO.out y)
  have k3 : ∀ y : InC C, y.w.cell? ⟨bx, 3, none⟩ = some (.int .i64 x.cut) := fun y => cell_of_row y.w bx 3 _ _ _ (CO.out y)
  clear hC hW U hCW X3 HB3 U3
  simp only [pick, List.getElem?_cons_zero, List.getElem?_cons_succ]
  repeat (first | (refine wpStillC_load_arr (by rfl) 38 (.tmp 1) rfl bx 0 rfl #[.int .i64 x.farm, .int .i64 x.litres, .int .i64 x.price, .int .i64 x.cut, .int .i64 x.salt] _ (fun w' hw' => by (obtain ⟨z, rfl⟩ := hw'; exact rangeAt_row (CO.out z))) rfl rfl (by rfl) ?_) | (refine wpStillC_step (fun K hK => ?_); go_simp; refine hK _ ?_; clear hK K))
  refine wpStillC_nil ?_
  clear k1 k2 k3
  refine wpChain_step (fun K hK => ?_)
  go_simp
  refine (LT.out W).mono ?_
  rintro e w1 ⟨p, c, rfl, h1, h2, h3, u1⟩
  have U1 : Hid (Up w w1) := Up.trans UW.out u1
  have X1 : Hid (w1.heap[bx]? = some (.cells #[.int .i64 x.farm, .int .i64 x.litres, .int .i64 x.price, .int .i64 x.cut, .int .i64 x.salt] 38 (0, 0))) := (u1.block bx (lt_of_block XW.out)).trans XW.out
  have D1 : Hid (w1.heap[bd]? = some (.cells Z2 28 (0, 0))) := (u1.block bd (lt_of_block DW.out)).trans DW.out
  refine hK _ _ ⟨⟨w1, CI.out w1 U1.out X1.out⟩, rfl⟩ ?_
  clear hK K u1
  refine wpChain_step (fun K hK => ?_)
  go_simp
  refine (SUM.out w1 p c h1 h2 h3 (HT.out.up U1.out)).mono ?_
  rintro e w2 ⟨rfl, u2⟩
  have U2 : Hid (Up w w2) := Up.trans U1.out u2
  have X2 : Hid (w2.heap[bx]? = some (.cells #[.int .i64 x.farm, .int .i64 x.litres, .int .i64 x.price, .int .i64 x.cut, .int .i64 x.salt] 38 (0, 0))) := (u2.block bx (lt_of_block X1.out)).trans X1.out
  have D2 : Hid (w2.heap[bd]? = some (.cells Z2 28 (0, 0))) := (u2.block bd (lt_of_block D1.out)).trans D1.out
  refine hK _ _ ⟨⟨w2, CI.out w2 U2.out X2.out⟩, rfl⟩ ?_
  clear hK K u2 h1 h2 h3
  refine wpChain_want rfl (fun K hK => ?_)
  refine wp_buildTo 28 _ rfl D (by simpa [Act.eval] using HB.out) ?_
  refine hK _ _ ⟨⟨w2, CI.out w2 U2.out X2.out⟩, rfl⟩ ?_
  clear hK K
  refine wpChain_want rfl (fun K hK => ?_)
  refine wp_store_row 28 (.tmp 2) (.tmp 12) rfl bd D rfl rfl 28 _ D2.out (by rw [HDS.out]; rfl) (by rw [HZ2.out, HDS.out]) HDC.out ?_
  have U4 : Hid (Up w (w2.setRow bd D)) := below_setRow U2.out (by rw [HE.out, HBX.out]; omega) _
  have X4 : (w2.setRow bd D).heap[bx]? = some (.cells #[.int .i64 x.farm, .int .i64 x.litres, .int .i64 x.price, .int .i64 x.cut, .int .i64 x.salt] 38 (0, 0)) := by
    rw [setRow_other _ _ _ _ (by rw [HE.out]; omega)]; exact X2.out
  refine hK _ _ ⟨⟨_, CI.out _ U4.out X4⟩, rfl⟩ ?_
  clear hK K X4
  refine wpChain_nil ?_
  go_wp2
  refine bodyPost_ret (results_cell_row rfl _ _ bd _ D (0, 0) _ rfl (setRow_heap _ _ _ _ _ _ D2.out) rfl rfl (by rw [HDS.out]; rfl)) rfl ⟨rfl, U4.out⟩

end Go.Proofs.YtobcfhninchnkaaDoor

namespace Go.Proofs.YtobcfhninchnkaaDoor
open Go.RowKit
set_option linter.unusedVariables false
set_option maxRecDepth 100000

/-- sums small enough that two of them add up -/
structure Sm.ok (s : Sm) : Prop where
  hash : s.hash.length = 32
  litres : 0 ≤ s.litres ∧ s.litres ≤ 1152921504606846976
  price : 0 ≤ s.price ∧ s.price ≤ 1152921504606846976
  cut : 0 ≤ s.cut ∧ s.cut ≤ 1152921504606846976
theorem Sm.ok.wf {s : Sm} (h : s.ok) : s.wf :=
  ⟨h.hash, ⟨by have := h.litres; omega, by have := h.litres; omega⟩, ⟨by have := h.price; omega, by have := h.price; omega⟩, ⟨by have := h.cut; omega, by have := h.cut; omega⟩⟩

theorem sm_c32 {s : Sm} (h : s.hash.length = 32) : (smCells s).toArray[32]? = some (.int .i64 s.litres) := by
  simp only [smCells, List.getElem?_toArray]
  rw [List.getElem?_append_right (by rw [u8s_length, h]; omega), u8s_length, h]; rfl
theorem sm_c33 {s : Sm} (h : s.hash.length = 32) : (smCells s).toArray[33]? = some (.int .i64 s.price) := by
  simp only [smCells, List.getElem?_toArray]
  rw [List.getElem?_append_right (by rw [u8s_length, h]; omega), u8s_length, h]; rfl
theorem sm_c34 {s : Sm} (h : s.hash.length = 32) : (smCells s).toArray[34]? = some (.int .i64 s.cut) := by
  simp only [smCells, List.getElem?_toArray]
  rw [List.getElem?_append_right (by rw [u8s_length, h]; omega), u8s_length, h]; rfl

/-- plus's answer: no hash -/
def plusS (s t : Sm) : Sm := ⟨List.replicate 32 0, s.litres + t.litres, s.price + t.price, s.cut + t.cut⟩
theorem built_plus (a b c : Int) : Tryd.prog.built 28 [(1, .int .i64 a), (2, .int .i64 b), (3, .int .i64 c)] = some (smCells ⟨List.replicate 32 0, a, b, c⟩).toArray := by
  show _ = _
  kernel_rfl

set_option maxHeartbeats 1000000 in
theorem plus_calls (s t : Sm) (hs : s.ok) (ht : t.ok) (w : World) : Calls Tryd.prog 67 #[.agg (smCells s).toArray, .agg (smCells t).toArray] w fun e w' => e = .returned (.agg (smCells (plusS s t)).toArray) ∧ Up w w' := by
  have a1 := sm_c32 hs.hash
  have a2 := sm_c33 hs.hash
  have a3 := sm_c34 hs.hash
  have b1 := sm_c32 ht.hash
  have b2 := sm_c33 ht.hash
  have b3 := sm_c34 ht.hash
  have e1 : IntKind.i64.wrap (s.litres + t.litres) = s.litres + t.litres := IntWalk.i64_in _ (by have := hs.litres; have := ht.litres; omega)
  have e2 : IntKind.i64.wrap (s.price + t.price) = s.price + t.price := IntWalk.i64_in _ (by have := hs.price; have := ht.price; omega)
  have e3 : IntKind.i64.wrap (s.cut + t.cut) = s.cut + t.cut := IntWalk.i64_in _ (by have := hs.cut; have := ht.cut; omega)
  have hB := built_plus (s.litres + t.litres) (s.price + t.price) (s.cut + t.cut)
  have hDc := smCells_all (plusS s t)
  have hDs : (smCells (plusS s t)).toArray.size = 35 := by have := smCells_len (s := plusS s t) rfl; simpa using this
  obtain ⟨D, hD⟩ : ∃ D, D = (smCells (plusS s t)).toArray := ⟨_, rfl⟩
  have hD' : D = (smCells ⟨List.replicate 32 0, s.litres + t.litres, s.price + t.price, s.cut + t.cut⟩).toArray := hD
  rw [← hD'] at hB
  rw [← hD] at hDc hDs ⊢
  have hA1 : (smCells s).toArray.size = 35 := by have := smCells_len (s := s) hs.hash; simpa using this
  have hA2 : (smCells t).toArray.size = 35 := by have := smCells_len (s := t) ht.hash; simpa using this
  obtain ⟨A, hA⟩ : ∃ A, A = (smCells s).toArray := ⟨_, rfl⟩
  obtain ⟨B, hBb⟩ : ∃ B, B = (smCells t).toArray := ⟨_, rfl⟩
  rw [← hA] at a1 a2 a3 hA1 ⊢
  rw [← hBb] at b1 b2 b3 hA2 ⊢
  have HB := Lib.hid hB
  have HDC := Lib.hid hDc
  have HDS := Lib.hid hDs
  have HA1 := Lib.hid a1
  have HA2 := Lib.hid a2
  have HA3 := Lib.hid a3
  have HB1 := Lib.hid b1
  have HB2' := Lib.hid b2
  have HB3 := Lib.hid b3
  clear hB hDc hDs hD hD' hA hBb a1 a2 a3 b1 b2 b3 hs ht hA1 hA2
  go_enter Tryd.func67, Tryd.ntmps67
  go_wp2_with ((first | (refine wpList_named ?_; intro W1 hW1; refine wpList_allocG rfl 28 35 allocsSum rfl ?_; intro W2 u2 z2 hz2; obtain ⟨Z2, hZ2, hb2⟩ := hz2; (have x1 : W1.heap[w.heap.size]? = some (.cells A 103 (0, 0)) := by (rw [hW1]; exact (((Up.refl _).alloc _).block w.heap.size (by simp)).trans (heap_new rfl))); (have y1 : W1.heap[w.heap.size + 1]? = some (.cells B 28 (0, 0)) := by (rw [hW1]; exact heap_new (by simp))); (have x2 := (u2.block _ (lt_of_block x1)).trans x1); (have y2 := (u2.block _ (lt_of_block y1)).trans y1); (have q1 := (cell_of_row W2 _ 32 _ _ _ x2).trans HA1.out); (have q2 := (cell_of_row W2 _ 33 _ _ _ x2).trans HA2.out); (have q3 := (cell_of_row W2 _ 34 _ _ _ x2).trans HA3.out); (have q4 := (cell_of_row W2 _ 32 _ _ _ y2).trans HB1.out); (have q5 := (cell_of_row W2 _ 33 _ _ _ y2).trans HB2'.out); (have q6 := (cell_of_row W2 _ 34 _ _ _ y2).trans HB3.out); (have U : Hid (Up w W2) := Up.trans (by (rw [hW1]; exact ((Up.refl w).alloc _).alloc _)) u2); (have hsz : w.heap.size ≤ W1.heap.size := by (rw [hW1]; simp; omega)); have HSZ := Lib.hid hsz; have HZ2 := Lib.hid hZ2; have HBD := Lib.hid hb2; clear u2 z2 hZ2 hb2 hW1 x1 y1 x2 y2 hsz) | (refine wpList_buildTo rfl 28 _ rfl (some 20) rfl D (by simpa [Act.eval] using HB.out) ?_) | (refine wpList_store_row rfl 28 (.tmp 4) (.tmp 20) rfl _ D rfl rfl 28 _ HBD.out (by rw [HDS.out]; rfl) (by rw [HZ2.out, HDS.out]) HDC.out ?_)))
  refine bodyPost_ret (results_cell_row rfl _ _ _ _ D (0, 0) _ rfl (setRow_heap _ _ _ _ _ _ HBD.out) rfl rfl (by rw [HDS.out]; rfl)) rfl ⟨rfl, below_setRow U.out HSZ.out _⟩

end Go.Proofs.YtobcfhninchnkaaDoor

namespace Go.Proofs.YtobcfhninchnkaaDoor
open Go.RowKit
set_option linter.unusedVariables false
set_option maxRecDepth 100000

theorem sm_hash {s : Sm} (h : s.hash.length = 32) {w : World} {b : Nat} {t : TypeId} {fr : Nat × Nat} (hb : w.heap[b]? = some (.cells (smCells s).toArray t fr)) : SB w (some ⟨b, 0, none⟩) s.hash := fun hne =>
  ⟨b, 0, rfl, fun i hi => by
    rw [Nat.zero_add, cell_of_row w b i _ _ _ hb]
    simp only [smCells, List.getElem?_toArray]
    rw [List.getElem?_append_left (by rw [u8s_length]; exact hi)]
    simp [u8s, hi]⟩

set_option maxHeartbeats 1000000 in
theorem nodeText_callsO (s t : Sm) (hs : s.wf) (ht : t.wf) (w : World) : Calls Tryd.prog 58 #[.agg (smCells s).toArray, .agg (smCells t).toArray] w (RetO w (nodeT s t)) := by
  have HSW := Lib.hid hs
  have HTW := Lib.hid ht
  obtain ⟨A, hA⟩ : ∃ A, A = (smCells s).toArray := ⟨_, rfl⟩
  obtain ⟨B, hB⟩ : ∃ B, B = (smCells t).toArray := ⟨_, rfl⟩
  rw [← hA, ← hB]
  have HA := Lib.hid hA
  have HB := Lib.hid hB
  clear hA hB hs ht
  go_enter Tryd.func58, Tryd.ntmps58
  go_wp2_with fail
  refine wp_named ?_
  intro W0 hW0
  obtain ⟨bx, hbx⟩ : ∃ b, b = w.heap.size := ⟨_, rfl⟩
  have x1 : W0.heap[bx]? = some (.cells A 28 (0, 0)) := by rw [hW0, hbx]; exact (((Up.refl _).alloc _).block w.heap.size (by simp)).trans (heap_new rfl)
  have y1 : W0.heap[bx + 1]? = some (.cells B 28 (0, 0)) := by rw [hW0]; exact heap_new (by simp [hbx])
  have u0 : Up w W0 := by rw [hW0]; exact ((Up.refl w).alloc _).alloc _
  have X1 := Lib.hid x1
  have Y1 := Lib.hid y1
  have U0 := Lib.hid u0
  rw [← hbx]
  clear hW0 hbx x1 y1 u0
  refine wp_region_mix_at [0, 1, 2, 3, 4, 5, 6, 7, 8, 9, 10, 11, 12, 13, 14, 15, 16, 17, 18, 19, 20, 21, 22, 23, 24, 25, 26] [27, 28, 29] (by kernel_rfl) (by kernel_rfl) (fun _ _ d _ _ h => by cases d <;> exact h) ?_
  intro W U hW
  refine ⟨fun W' => Up W W', Up.refl _, ?_⟩
  have XW : Hid (W.heap[bx]? = some (.cells A 28 (0, 0))) := by show _ = _; rw [hW]; exact X1.out
  have YW : Hid (W.heap[bx + 1]? = some (.cells B 28 (0, 0))) := by show _ = _; rw [hW]; exact Y1.out
  have UW : Hid (Up w W) := Up.trans U0.out U
  haveI : Nonempty (InC (fun W' => Up W W')) := ⟨⟨W, Up.refl _⟩⟩
  have hx : ∀ y : InC (fun W' => Up W W'), y.w.heap[bx]? = some (.cells A 28 (0, 0)) := fun y => (y.h.block bx (lt_of_block XW.out)).trans XW.out
  have hy : ∀ y : InC (fun W' => Up W W'), y.w.heap[bx + 1]? = some (.cells B 28 (0, 0)) := fun y => (y.h.block (bx + 1) (lt_of_block YW.out)).trans YW.out
  have k1 : ∀ y : InC (fun W' => Up W W'), y.w.cell? ⟨bx, 32, none⟩ = some (.int .i64 s.litres) := fun y => (cell_of_row y.w bx 32 _ _ _ (hx y)).trans (by rw [HA.out]; exact sm_c32 HSW.out.hash)
  have k2 : ∀ y : InC (fun W' => Up W W'), y.w.cell? ⟨bx, 33, none⟩ = some (.int .i64 s.price) := fun y => (cell_of_row y.w bx 33 _ _ _ (hx y)).trans (by rw [HA.out]; exact sm_c33 HSW.out.hash)
  have k3 : ∀ y : InC (fun W' => Up W W'), y.w.cell? ⟨bx, 34, none⟩ = some (.int .i64 s.cut) := fun y => (cell_of_row y.w bx 34 _ _ _ (hx y)).trans (by rw [HA.out]; exact sm_c34 HSW.out.hash)
  have k4 : ∀ y : InC (fun W' => Up W W'), y.w.cell? ⟨bx + 1, 32, none⟩ = some (.int .i64 t.litres) := fun y => (cell_of_row y.w (bx + 1) 32 _ _ _ (hy y)).trans (by rw [HB.out]; exact sm_c32 HTW.out.hash)
  have k5 : ∀ y : InC (fun W' => Up W W'), y.w.cell? ⟨bx + 1, 33, none⟩ = some (.int .i64 t.price) := fun y => (cell_of_row y.w (bx + 1) 33 _ _ _ (hy y)).trans (by rw [HB.out]; exact sm_c33 HTW.out.hash)
  have k6 : ∀ y : InC (fun W' => Up W W'), y.w.cell? ⟨bx + 1, 34, none⟩ = some (.int .i64 t.cut) := fun y => (cell_of_row y.w (bx + 1) 34 _ _ _ (hy y)).trans (by rw [HB.out]; exact sm_c34 HTW.out.hash)
  have c1 : ∀ y : InC (fun W' => Up W W'), (convert 45 9 (.slice (some ⟨bx, 0, none⟩) 32 32)).run Tryd.prog y.w = .ok (.string (bsOf s.hash)) y.w := fun y => by
    have h := run_text_of y.w (some ⟨bx, 0, none⟩) 32 s.hash (sm_hash HSW.out.hash (by rw [← HA.out]; exact hx y))
    rw [HSW.out.hash] at h; exact h
  have c2 : ∀ y : InC (fun W' => Up W W'), (convert 45 9 (.slice (some ⟨bx + 1, 0, none⟩) 32 32)).run Tryd.prog y.w = .ok (.string (bsOf t.hash)) y.w := fun y => by
    have h := run_text_of y.w (some ⟨bx + 1, 0, none⟩) 32 t.hash (sm_hash HTW.out.hash (by rw [← HB.out]; exact hy y))
    rw [HTW.out.hash] at h; exact h
  clear hx hy U hW
  simp only [pick, List.getElem?_cons_zero, List.getElem?_cons_succ]
  repeat (refine wpStillC_step (fun K hK => ?_); go_simp; refine hK _ ?_; clear hK K)
  refine wpStillC_nil ?_
  clear k1 k2 k3 k4 k5 k6 c1 c2
  refine wpChain_step (fun K hK => ?_)
  go_simp
  refine hK _ _ (inC ((Up.refl W).alloc _)) ?_
  clear hK K
  refine wpChain_nm ?_
  intro W5 hW5
  have U5 : Hid (Up W W5) := by show Up W W5; rw [hW5]; exact (Up.refl W).alloc _
  have R : Hid (∃ ty, W5.heap[W.heap.size]? = some (.cells #[.iface 9 (.string bSum), .iface 9 (.string (bsOf s.hash)), .iface 3 (.int .i64 s.litres), .iface 3 (.int .i64 s.price), .iface 3 (.int .i64 s.cut), .iface 9 (.string (bsOf t.hash)), .iface 3 (.int .i64 t.litres), .iface 3 (.int .i64 t.price), .iface 3 (.int .i64 t.cut)] ty (0, 0))) := by
    rw [hW5]; exact ⟨_, heap_new rfl⟩
  clear hW5
  refine wpChain_step (fun K hK => ?_)
  go_simp
  refine (ptext_calls W.heap.size 9 (nodeIts s t) W5 rfl (by omega) (nodeIts_ok HSW.out HTW.out) ?_ (by have := tot_of (nodeT_len HSW.out.hash HTW.out.hash); omega)).mono ?_
  · intro i hi
    obtain ⟨ty, hr⟩ := R.out
    have hi' : i < 9 := hi
    rcases i with _ | _ | _ | _ | _ | _ | _ | _ | _ | i
    · exact ⟨_, cell_of_row W5 _ 0 _ _ _ hr, rfl⟩
    · exact ⟨_, cell_of_row W5 _ 1 _ _ _ hr, rfl⟩
    · exact ⟨_, cell_of_row W5 _ 2 _ _ _ hr, rfl⟩
    · exact ⟨_, cell_of_row W5 _ 3 _ _ _ hr, rfl⟩
    · exact ⟨_, cell_of_row W5 _ 4 _ _ _ hr, rfl⟩
    · exact ⟨_, cell_of_row W5 _ 5 _ _ _ hr, rfl⟩
    · exact ⟨_, cell_of_row W5 _ 6 _ _ _ hr, rfl⟩
    · exact ⟨_, cell_of_row W5 _ 7 _ _ _ hr, rfl⟩
    · exact ⟨_, cell_of_row W5 _ 8 _ _ _ hr, rfl⟩
    · omega
  rintro e w6 ⟨v, rfl, ho, hu⟩
  obtain ⟨p, c, rfl, h1, h2, h3⟩ := ho.form
  have U6 : Hid (Up W w6) := Up.trans U5.out hu
  have HO := Lib.hid (ho.less (Nat.le_trans UW.out.size U5.out.size))
  clear ho hu h1 h2 h3
  refine hK _ _ (inC U6.out) ?_
  clear hK K
  refine wpChain_step (fun K hK => ?_)
  go_simp
  refine hK _ _ (inC U6.out) ?_
  clear hK K
  refine wpChain_nil ?_
  go_wp2
  go_ret
  exact ⟨_, rfl, HO.out, Up.trans UW.out U6.out⟩
theorem nodeText_calls (s t : Sm) (hs : s.wf) (ht : t.wf) (w : World) : Calls Tryd.prog 58 #[.agg (smCells s).toArray, .agg (smCells t).toArray] w (RetB w (nodeT s t)) := (nodeText_callsO s t hs ht w).mono fun _ _ h => h.b

end Go.Proofs.YtobcfhninchnkaaDoor

namespace Go.Proofs.YtobcfhninchnkaaDoor
open Go.RowKit
set_option linter.unusedVariables false
set_option maxRecDepth 100000

theorem wpList_store_arr {P : Program} {ops : Array Oper} {rest : List Oper} {o : Oper} {a : Act} {w : World} {Q : Exit → Act → World → Prop} (hgd : o.guard = none) (ty : TypeId) (x y : Operand) (ho : o.op = .store ty x y)
    (b off : Nat) (cells : Array Value) (hx : a.eval x = .pointer (some ⟨b, off, none⟩)) (hy : a.eval y = .agg cells)
    (ht : w.there b off cells.size) (hi : (P.info? ty).map (·.size) = some cells.size) (h1 : cells.all (·.oneCell') = true)
    (h : ∀ W, W = w.setCells b off cells.toList → wpList P ops Q rest (a.put o.dst undef) W) : wpList P ops Q (o :: rest) a w :=
  wpList_store_mid hgd ty x y ho b off cells hx hy ht hi h1 (h _ rfl)
theorem node_row (s t : Sm) : splice (smCells (plusS s t)) 0 (u8s (Sha.sum (nodeT s t))) = smCells (nodeS s t) := by
  have hl : (u8s (Sha.sum (nodeT s t))).length = 32 := by rw [u8s_length]; exact Sha.sum_length _
  have e : ∀ (h : List UInt8) (r : List Value), h.length = 32 → (u8s h ++ r).drop 32 = r := fun h r hh => by
    rw [List.drop_append_of_le_length (by rw [u8s_length]; omega), List.drop_of_length_le (by rw [u8s_length]; omega)]; rfl
  unfold splice
  rw [Nat.zero_add, hl, List.take_zero, List.nil_append]
  simp only [smCells]
  rw [e _ _ rfl]
  rfl

set_option maxHeartbeats 1000000 in
theorem node_calls (s t : Sm) (hs : s.ok) (ht : t.ok) (w : World) (htab : Tabs w) : Calls Tryd.prog 53 #[.agg (smCells s).toArray, .agg (smCells t).toArray] w fun e w' => e = .returned (.agg (smCells (nodeS s t)).toArray) ∧ Up w w' := by
  have HT := Lib.hid htab
  have PL := Lib.hid fun w => plus_calls s t hs ht w
  have NT := Lib.hid fun w => nodeText_calls s t hs.wf ht.wf w
  have SUM := Lib.hid fun w p c h1 h2 h3 (ht : Tabs w) => sum_calls p c (nodeT s t) w h1 h2 h3 ht.1 ht.2
  have hl : (Sha.sum (nodeT s t)).length = 32 := Sha.sum_length _
  have hA1 : (smCells s).toArray.size = 35 := by have := smCells_len (s := s) hs.hash; simpa using this
  have hA2 : (smCells t).toArray.size = 35 := by have := smCells_len (s := t) ht.hash; simpa using this
  obtain ⟨A, hA⟩ : ∃ A, A = (smCells s).toArray := ⟨_, rfl⟩
  obtain ⟨B, hBb⟩ : ∃ B, B = (smCells t).toArray := ⟨_, rfl⟩
  rw [← hA, ← hBb] at PL NT ⊢
  rw [← hA] at hA1
  rw [← hBb] at hA2
  have HA1 := Lib.hid hA1
  have HA2 := Lib.hid hA2
  clear hA1 hA2 hs ht htab hA hBb
  go_enter Tryd.func53, Tryd.ntmps53
  go_wp2_with ((first | (refine wpList_named ?_; intro W1 hW1; refine wpList_allocG rfl 28 35 allocsSum rfl ?_; intro W2 u2 z2 hz2; obtain ⟨Z2, hZ2, hb2⟩ := hz2; (have x1 : W1.heap[w.heap.size]? = some (.cells A 28 (0, 0)) := by (rw [hW1]; exact (((Up.refl _).alloc _).block w.heap.size (by simp)).trans (heap_new rfl))); (have y1 : W1.heap[w.heap.size + 1]? = some (.cells B 28 (0, 0)) := by (rw [hW1]; exact heap_new (by simp))); (have X2 := Lib.hid ((u2.block _ (lt_of_block x1)).trans x1)); (have Y2 := Lib.hid ((u2.block _ (lt_of_block y1)).trans y1)); (have U2 : Hid (Up w W2) := Up.trans (by (rw [hW1]; exact ((Up.refl w).alloc _).alloc _)) u2); (have hsz : W1.heap.size = w.heap.size + 2 := by (rw [hW1]; simp)); have HSZ := Lib.hid hsz; have HZ2 := Lib.hid hZ2; have HBD := Lib.hid hb2; clear u2 z2 hZ2 hb2 hW1 x1 y1 hsz) | ((with_reducible show wpList _ _ _ (Oper.mk _ (Op.load _ (Operand.tmp 2)) _ _ _ _ :: _) _ _); refine wpList_load_arr rfl 28 (.tmp 2) rfl w.heap.size 0 rfl A _ (rangeAt_row X2.out) rfl rfl (by rw [HA1.out]; rfl) ?_) | ((with_reducible show wpList _ _ _ (Oper.mk _ (Op.load _ (Operand.tmp 3)) _ _ _ _ :: _) _ _); refine wpList_load_arr rfl 28 (.tmp 3) rfl (w.heap.size + 1) 0 rfl B _ (rangeAt_row Y2.out) rfl rfl (by rw [HA2.out]; rfl) ?_)))
  obtain ⟨bd, hbd⟩ : ∃ b, b = W1.heap.size := ⟨_, rfl⟩
  rw [← hbd] at HBD HSZ ⊢
  clear hbd
  refine (PL.out W2).mono ?_
  rintro e w3 ⟨rfl, u3⟩
  have U3 : Hid (Up w w3) := Up.trans U2.out u3
  have X3 := Lib.hid ((u3.block _ (lt_of_block X2.out)).trans X2.out)
  have Y3 := Lib.hid ((u3.block _ (lt_of_block Y2.out)).trans Y2.out)
  have B3 := Lib.hid ((u3.block _ (lt_of_block HBD.out)).trans HBD.out)
  have hC := smCells_len (s := plusS s t) rfl
  obtain ⟨D0, hD0⟩ : ∃ D, D = (smCells (plusS s t)).toArray := ⟨_, rfl⟩
  have hD0s : D0.size = 35 := by rw [hD0]; simpa using hC
  have hD0c : D0.all (·.oneCell') = true := by rw [hD0]; exact smCells_all _
  rw [← hD0]
  have HD0 := Lib.hid hD0
  have HD0S := Lib.hid hD0s
  have HD0C := Lib.hid hD0c
  clear u3 hC hD0 hD0s hD0c
  go_wp2_with (first | (refine wpList_allocG rfl 28 35 allocsSum rfl ?_; intro W4 u4 z4 hz4; obtain ⟨Z4, hZ4, hb4⟩ := hz4; have V4 := Lib.hid u4; have HZ4 := Lib.hid hZ4; have HB4 := Lib.hid hb4; clear u4 z4 hZ4 hb4) | (refine wpList_store_row rfl 28 (.tmp 6) (.tmp 11) rfl _ D0 rfl rfl 28 _ HB4.out (by rw [HD0S.out]; rfl) (by rw [HZ4.out, HD0S.out]) HD0C.out ?_; refine wpList_named ?_; intro W5 hW5; (have u5 : Up w3 W5 := setRow_upN hW5 V4.out (Nat.le_refl _)); (have p5 := setRow_named hW5 HB4.out); (have U5 : Hid (Up w W5) := Up.trans U3.out u5); (have X5 := Lib.hid ((u5.block _ (lt_of_block X3.out)).trans X3.out)); (have Y5 := Lib.hid ((u5.block _ (lt_of_block Y3.out)).trans Y3.out)); (have B5 := Lib.hid ((u5.block _ (lt_of_block B3.out)).trans B3.out)); have P5 := Lib.hid p5; clear u5 p5 hW5) | ((with_reducible show wpList _ _ _ (Oper.mk _ (Op.load _ (Operand.tmp 2)) _ _ _ _ :: _) _ _); refine wpList_load_arr rfl 28 (.tmp 2) rfl w.heap.size 0 rfl A _ (rangeAt_row X5.out) rfl rfl (by rw [HA1.out]; rfl) ?_) | ((with_reducible show wpList _ _ _ (Oper.mk _ (Op.load _ (Operand.tmp 3)) _ _ _ _ :: _) _ _); refine wpList_load_arr rfl 28 (.tmp 3) rfl (w.heap.size + 1) 0 rfl B _ (rangeAt_row Y5.out) rfl rfl (by rw [HA2.out]; rfl) ?_))
  refine (NT.out W5).mono ?_
  rintro e w6 ⟨p, c, rfl, h1, h2, h3, u6⟩
  have U6 : Hid (Up w w6) := Up.trans U5.out u6
  have B6 := Lib.hid ((u6.block _ (lt_of_block B5.out)).trans B5.out)
  have P6 := Lib.hid ((u6.block _ (lt_of_block P5.out)).trans P5.out)
  have H6 := Lib.hid (And.intro h1 (And.intro h2 h3))
  clear u6 h1 h2 h3
  go_wp2_with fail
  refine (SUM.out w6 p c H6.out.1 H6.out.2.1 H6.out.2.2 (HT.out.up U6.out)).mono ?_
  rintro e w7 ⟨rfl, u7⟩
  have U7 : Hid (Up w w7) := Up.trans U6.out u7
  have B7 := Lib.hid ((u7.block _ (lt_of_block B6.out)).trans B6.out)
  have P7 := Lib.hid ((u7.block _ (lt_of_block P6.out)).trans P6.out)
  clear u7
  have hl : (Sha.sum (nodeT s t)).length = 32 := Sha.sum_length _
  have hSs : (u8s (Sha.sum (nodeT s t))).toArray.size = 32 := by rw [u8s_arr]; exact hl
  have hSc := u8s_all (Sha.sum (nodeT s t))
  have hrow := node_row s t
  have hDs : (smCells (nodeS s t)).toArray.size = 35 := by have := smCells_len (s := nodeS s t) hl; simpa using this
  have hDc := smCells_all (nodeS s t)
  obtain ⟨S, hS⟩ : ∃ S, S = (u8s (Sha.sum (nodeT s t))).toArray := ⟨_, rfl⟩
  obtain ⟨D, hD⟩ : ∃ D, D = (smCells (nodeS s t)).toArray := ⟨_, rfl⟩
  rw [← hS] at hSs hSc ⊢
  rw [← hD] at hDs hDc
  have HDE := Lib.hid hD
  have HSs := Lib.hid hSs
  have HSc := Lib.hid hSc
  have HDs := Lib.hid hDs
  have HDc := Lib.hid hDc
  have HROW : Hid ((splice D0.toList 0 S.toList).toArray = D) := by
    show _ = _
    rw [HD0.out, hS, hD, ← hrow]
  obtain ⟨bm, hbm⟩ : ∃ b, b = w3.heap.size := ⟨_, rfl⟩
  rw [← hbm] at P7 ⊢
  have hbm2 : w.heap.size ≤ bm := by rw [hbm]; exact U3.out.size
  have hbdm : bd ≠ bm := by have := lt_of_block B3.out; omega
  have HBM := Lib.hid hbm2
  have HBDM := Lib.hid hbdm
  have TH : Hid (w7.there bm 0 S.size) := fun j hj => by
    have hj2 : j < D0.size := by rw [HD0S.out]; rw [HSs.out] at hj; omega
    refine ⟨?_, free_row P7.out _⟩
    rw [Nat.zero_add, cell_of_row w7 bm _ _ _ _ P7.out, Array.getElem?_eq_getElem hj2]; rfl
  clear hSs hSc hrow hDs hDc hS hD hbm hl hbm2 hbdm
  go_wp2_with (first | ((with_reducible show wpList _ _ _ (Oper.mk _ (Op.store _ (Operand.tmp 16) _) _ _ _ _ :: _) _ _); refine wpList_store_arr rfl 26 (.tmp 16) (.tmp 15) rfl bm 0 S rfl rfl TH.out (by rw [HSs.out]; rfl) HSc.out ?_; intro W8 h8; (have hc := chg_setCells bm S.toList 0 w7); rw [← h8] at hc; (have p8 : W8.heap[bm]? = some (.cells D 28 (0, 0)) := by (rw [h8, ← HROW.out]; exact heap_setCells_row bm _ _ 0 D0.toList w7 (by rw [Array.toArray_toList]; exact P7.out) (by rw [Array.length_toList, Array.length_toList, HSs.out, HD0S.out]; omega))); (have U8 : Hid (Up w W8) := ⟨hc.os.trans U7.out.os, hc.tape.trans U7.out.tape, hc.output.trans U7.out.output, Nat.le_trans U7.out.size hc.size, fun j hj => (hc.block j (Nat.lt_of_lt_of_le hj U7.out.size) (by have := HBM.out; omega)).trans (U7.out.block j hj)⟩); (have B8 := Lib.hid ((hc.block bd (lt_of_block B7.out) HBDM.out).trans B7.out)); have P8 := Lib.hid p8; clear h8 hc p8) | ((with_reducible show wpList _ _ _ (Oper.mk _ (Op.load _ (Operand.tmp 6)) _ _ _ _ :: _) _ _); refine wpList_load_arr rfl 28 (.tmp 6) rfl bm 0 rfl D _ (rangeAt_row P8.out) rfl rfl (by rw [HDs.out]; rfl) ?_) | ((with_reducible show wpList _ _ _ (Oper.mk _ (Op.store _ (Operand.tmp 4) _) _ _ _ _ :: _) _ _); refine wpList_store_row rfl 28 (.tmp 4) (.tmp 17) rfl bd D rfl rfl 28 _ B8.out (by rw [HDs.out]; rfl) (by rw [HZ2.out, HDs.out]) HDc.out ?_))
  refine bodyPost_ret (results_cell_row rfl _ _ bd _ D (0, 0) _ rfl (setRow_heap _ _ _ _ _ _ B8.out) rfl rfl (by rw [HDs.out]; rfl)) rfl ⟨by rw [HDE.out], below_setRow U8.out (by rw [HSZ.out]; omega) _⟩

end Go.Proofs.YtobcfhninchnkaaDoor
