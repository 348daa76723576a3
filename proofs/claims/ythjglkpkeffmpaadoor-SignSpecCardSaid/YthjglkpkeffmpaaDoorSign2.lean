/- THE WALKS OF PACKAGE sign: power, plus, times, Sign, Verify. -/
import Derived.Test.YthjglkpkeffmpaaDoorSign1
import Derived.Test.YthjglkpkeffmpaaDoorSgP
import Derived.Test.YthjglkpkeffmpaaDoorHash
import Derived.Test.YthjglkpkeffmpaaDoorPow
namespace Go.Proofs.YthjglkpkeffmpaaDoor
open Go.RowKit
set_option linter.unusedVariables false

/-- both tables lie where the program's text lays them -/
def Tabs (w : World) : Prop := Tab0 w ∧ Tab w
theorem Tabs.up {w w' : World} (h : Tabs w) (hu : Up w w') : Tabs w' := ⟨h.1.kept (hu.block _ h.1.lt), h.2.kept (hu.block _ h.2.lt)⟩

theorem bodyPost_named {P : Program} {fn : Func} {post : Ending → World → Prop} {e : Exit} {a : Act} {w0 : World} (h : ∀ W, W = w0 → bodyPost P fn post e a W) : bodyPost P fn post e a w0 := h _ rfl

theorem elz4 : elz 4 = true := Sg.el4
theorem elz_pz {a : Int} (h : elz a = true) (n : Int) : elz (Sq.pz a.toNat n : Nat) = true := by rw [elz_nat]; exact Sq.el_pz h n

/-- the hash of a list of items under a tag -/
def hIts (tag : ByteArray) (xs : List Enc.It) : Nat := hn (Sha.tagged tag.data.toList (encIts xs))
theorem hIts_lt (tag : ByteArray) (xs : List Enc.It) : hIts tag xs < 1073741789 := Nat.mod_lt _ (by decide)

theorem spower_calls (a n : Int) (w : World) (h : elz a = true) : Calls Tryd.prog 20 #[.int .i64 a, .int .i64 n] w fun e w' => e = .returned (.int .i64 (Sq.pz a.toNat n : Nat)) ∧ Up w w' := by
  have P := Lib.hid fun w => pow_yes (n := n) w h
  clear h
  generalize Sq.pz a.toNat n = p at *
  go_enter Tryd.func20, Tryd.ntmps20
  go_wp2_with fail
  refine (P.out _).mono ?_
  rintro e w' ⟨rfl, u⟩
  have U : Hid (Up w w') := u
  clear u
  go_wp2_with fail
  go_ret
  exact ⟨rfl, U.out⟩

theorem plus_calls (a b : Int) (w : World) (ha0 : 0 ≤ a) (ha : a < 1073741789) (hb0 : 0 ≤ b) (hb : b < 1073741789) : Calls Tryd.prog 21 #[.int .i64 a, .int .i64 b] w fun e w' => e = .returned (.int .i64 ((a + b) % 1073741789)) ∧ w = w' := by
  go_enter Tryd.func21, Tryd.ntmps21
  go_wp2
  go_ret
  exact ⟨rfl, rfl⟩

theorem times_calls (a b : Int) (w : World) (ha0 : 0 ≤ a) (ha : a < 1073741789) (hb0 : 0 ≤ b) (hb : b < 1073741789) : Calls Tryd.prog 22 #[.int .i64 a, .int .i64 b] w fun e w' => e = .returned (.int .i64 (a * b % 1073741789)) ∧ w = w' := by
  have m1 := mul_bound (P := 1073741789) (a := a) (b := b) ha0 ha hb0 hb
  have e1 : wrap64 (a * b) = a * b := wrap64_id (by omega) (by omega)
  have e2 : (a * b).tmod 1073741789 = a * b % 1073741789 := tmod_pos m1.1
  clear m1
  go_enter Tryd.func22, Tryd.ntmps22
  go_wp2
  go_ret
  exact ⟨rfl, rfl⟩

/-- list, then Hash -/
def SHashC (tag : ByteArray) (ba k : Nat) (xs : List Enc.It) (w : World) : Prop :=
  ∃ n, n = hIts tag xs ∧ Calls Tryd.prog 19 #[.slice (some ⟨ba, 0, none⟩) k k] w fun e w' => ∃ p m c, e = .returned (.slice p m c) ∧ Up w w' ∧
    Calls Tryd.prog 16 #[.string tag, .slice p m c] w' fun e w2 => e = .returned (.int .i64 (n : Nat)) ∧ Up w' w2

theorem shash_calls (tag : ByteArray) (ht : tag.size ≤ 200) (ba k : Nat) (xs : List Enc.It) (w : World) (hk : k = xs.length) (hk2 : k ≤ 100) (hok : ∀ x ∈ xs, x.ok) (hargs : ∀ i (h : i < xs.length), ∃ v, w.cell? ⟨ba, i, none⟩ = some v ∧ SArg w v xs[i])
    (htot : (encIts xs).length ≤ 2000) (htab : Tabs w) : SHashC tag ba k xs w := by
  refine ⟨_, rfl, (slist_calls ba k xs w hk hk2 hok hargs ?_).mono ?_⟩
  · have : (xs.map Enc.encIt).flatten.length ≤ (encIts xs).length := by simp [encIts, Enc.encL]; omega
    omega
  · rintro e w' ⟨v, rfl, ho, hu⟩
    obtain ⟨p, c, rfl, h1, h2, h3⟩ := ho.form
    exact ⟨p, _, c, rfl, hu, hash_calls tag p c (encIts xs) w' ht htot h1 h2 h3 (htab.up hu).1 (htab.up hu).2⟩


def tNonce : ByteArray := ⟨#[110, 111, 110, 99, 101]⟩
def tSign : ByteArray := ⟨#[115, 105, 103, 110]⟩

theorem encIts2_len (a : Int) (s : ByteArray) (hs : s.size ≤ 600) : (encIts [.inl a, .inr s]).length ≤ 2000 := by
  have h1 := Enc.encI_length a
  have h2 := Enc.encT_length s.data.toList
  have h3 := Enc.num_length (0 + 1 + 1)
  have h4 : s.data.toList.length = s.size := by rw [Array.length_toList]; rfl
  simp only [encIts, Enc.encL, Enc.encIt, List.map_cons, List.map_nil, List.length_cons, List.length_nil, List.length_append, List.flatten_cons, List.flatten_nil]
  omega
theorem encIts3_len (a b : Int) (s : ByteArray) (hs : s.size ≤ 600) : (encIts [.inl a, .inl b, .inr s]).length ≤ 2000 := by
  have h1 := Enc.encI_length a
  have h1' := Enc.encI_length b
  have h2 := Enc.encT_length s.data.toList
  have h3 := Enc.num_length (0 + 1 + 1 + 1)
  have h4 : s.data.toList.length = s.size := by rw [Array.length_toList]; rfl
  simp only [encIts, Enc.encL, Enc.encIt, List.map_cons, List.map_nil, List.length_cons, List.length_nil, List.length_append, List.flatten_cons, List.flatten_nil]
  omega

/-- the nonce, E and S of a signature -/
def sgK (x : Nat) (s : ByteArray) : Nat := max (hIts tNonce [.inl x, .inr s]) 1
def sgE (x : Nat) (s : ByteArray) : Nat := hIts tSign [.inl (Sq.pz 4 (sgK x s) : Nat), .inl (Sq.pz 4 x : Nat), .inr s]
def sgS (x : Nat) (s : ByteArray) : Nat := (sgK x s + sgE x s * x % 1073741789) % 1073741789

theorem shash2 (tag : ByteArray) (ht : tag.size ≤ 200) (ba : Nat) (a : Int) (s : ByteArray) (p : Option Addr) (c : Nat) (w : World) (hs : s.size ≤ 600) (ha : -9223372036854775808 ≤ a ∧ a ≤ 9223372036854775807)
    (h0 : w.heap[ba]? = some (.cells #[.iface 3 (.int .i64 a), .iface 22 (.slice p s.size c)] 20 (0, 0))) (hsb : SB w p s.data.toList) (htab : Tabs w) : SHashC tag ba 2 [.inl a, .inr s] w :=
  shash_calls tag ht ba 2 _ w rfl (by omega) (fun x hx => by
    rcases List.mem_cons.1 hx with rfl | hx
    · exact ha
    · obtain rfl := List.mem_singleton.1 hx
      show s.size ≤ 1048576; omega) (fun i hi => by
    have : i = 0 ∨ i = 1 := by simp at hi; omega
    rcases this with rfl | rfl
    · exact ⟨_, cell_of_row w ba 0 _ _ _ h0, rfl⟩
    · exact ⟨_, cell_of_row w ba 1 _ _ _ h0, p, c, rfl, hsb⟩) (encIts2_len a s hs) htab
theorem shash3 (tag : ByteArray) (ht : tag.size ≤ 200) (ba : Nat) (a b : Int) (s : ByteArray) (p : Option Addr) (c : Nat) (w : World) (hs : s.size ≤ 600) (ha : -9223372036854775808 ≤ a ∧ a ≤ 9223372036854775807) (hb : -9223372036854775808 ≤ b ∧ b ≤ 9223372036854775807)
    (h0 : w.heap[ba]? = some (.cells #[.iface 3 (.int .i64 a), .iface 3 (.int .i64 b), .iface 22 (.slice p s.size c)] 20 (0, 0))) (hsb : SB w p s.data.toList) (htab : Tabs w) : SHashC tag ba 3 [.inl a, .inl b, .inr s] w :=
  shash_calls tag ht ba 3 _ w rfl (by omega) (fun x hx => by
    rcases List.mem_cons.1 hx with rfl | hx
    · exact ha
    · rcases List.mem_cons.1 hx with rfl | hx
      · exact hb
      · obtain rfl := List.mem_singleton.1 hx
        show s.size ≤ 1048576; omega) (fun i hi => by
    have : i = 0 ∨ i = 1 ∨ i = 2 := by simp at hi; omega
    rcases this with rfl | rfl | rfl
    · exact ⟨_, cell_of_row w ba 0 _ _ _ h0, rfl⟩
    · exact ⟨_, cell_of_row w ba 1 _ _ _ h0, rfl⟩
    · exact ⟨_, cell_of_row w ba 2 _ _ _ h0, p, c, rfl, hsb⟩) (encIts3_len a b s hs) htab

set_option maxRecDepth 100000 in
set_option maxHeartbeats 1000000 in
theorem sign_no (x : Int) (v : Value) (w : World) (hx : x < 1 ∨ 1073741789 ≤ x) :
    Calls Tryd.prog 8 #[.int .i64 x, v] w fun e w' => e = .returned (.tuple #[.agg #[.int .i64 0, .int .i64 0], .int .i64 110]) ∧ Up w w' := by
  by_cases h1 : x < 1
  · have d1 : decide (x < 1) = true := by simpa using h1
    go_enter Tryd.func8, Tryd.ntmps8
    go_wp2_with fail
    refine bodyPost_ret (v := .tuple #[.agg #[.int .i64 0, .int .i64 0], .int .i64 110]) (by simp [results, Tryd.results8, go_sem]) rfl ⟨rfl, (Up.refl w).alloc _⟩
  · have d1 : decide (x < 1) = false := by simpa using h1
    have d2 : decide (1073741789 ≤ x) = true := by simp; omega
    go_enter Tryd.func8, Tryd.ntmps8
    go_wp2_with fail
    refine bodyPost_ret (v := .tuple #[.agg #[.int .i64 0, .int .i64 0], .int .i64 110]) (by simp [results, Tryd.results8, go_sem]) rfl ⟨rfl, (Up.refl w).alloc _⟩

set_option maxRecDepth 100000 in
set_option maxHeartbeats 1000000 in
theorem sign_yes (x : Nat) (s : ByteArray) (p : Option Addr) (c : Nat) (w : World) (h1 : 1 ≤ x) (h2 : x < 1073741789) (hs : s.size ≤ 600) (hsb : SB w p s.data.toList) (htab : Tabs w) :
    Calls Tryd.prog 8 #[.int .i64 x, .slice p s.size c] w fun e w' => e = .returned (.tuple #[.agg #[.int .i64 (sgE x s : Nat), .int .i64 (sgS x s : Nat)], .int .i64 0]) ∧ Up w w' := by
  have HSB := Lib.hid hsb
  have HT := Lib.hid htab
  have hmf : ∀ (fn : Fn) (first cap : Array Value) (w : World), (Instr.makeFunc fn first cap).run Tryd.prog w = .ok (.func fn first cap) w := fun _ _ _ _ => rfl
  have d1 : decide ((x : Int) < 1) = false := by simp; omega
  have d2 : decide ((1073741789 : Int) ≤ x) = false := by simp; omega
  clear hsb htab
  go_enter Tryd.func8, Tryd.ntmps8
  go_wp2_with fail
  refine calls_named0 ?_
  intro W1 hW1
  obtain ⟨bt, hbt⟩ : ∃ bt, bt = w.heap.size := ⟨_, rfl⟩
  rw [← hbt]
  have u1 : Up w W1 := by rw [hW1]; exact ((Up.refl w).alloc _).alloc _
  have t1 : W1.heap[bt]? = some (.cells #[.int .i64 0, .int .i64 0] 24 (0, 0)) := by rw [hW1, heap_old (by rw [hbt]; simp), heap_new hbt]
  have l1 : W1.heap[bt + 1]? = some (.cells #[.iface 3 (.int .i64 x), .iface 22 (.slice p s.size c)] 20 (0, 0)) := by rw [hW1, heap_new (by rw [hbt]; simp)]
  obtain ⟨k0, hk0, hc0⟩ := shash2 tNonce (by decide) (bt + 1) x s p c W1 hs (by omega) l1 (HSB.out.up u1) (HT.out.up u1)
  have hk0b : k0 < 1073741789 := by rw [hk0]; exact hIts_lt _ _
  have HK0 := Lib.hid hk0
  have U1 := Lib.hid u1
  have T1 := Lib.hid t1
  have HBT := Lib.hid hbt
  clear hW1 u1 t1 l1 hk0 hbt
  refine hc0.mono ?_
  rintro e w2 ⟨p2, m2, c2, rfl, u2, hc2⟩
  have U2 : Hid (Up w w2) := Up.trans U1.out u2
  have T2 : Hid (w2.heap[bt]? = some (.cells #[.int .i64 0, .int .i64 0] 24 (0, 0))) := (u2.block bt (lt_of_block T1.out)).trans T1.out
  clear u2 hc0
  go_wp2_with fail
  refine hc2.mono ?_
  rintro e w3 ⟨rfl, u3⟩
  have U3 : Hid (Up w w3) := Up.trans U2.out u3
  have T3 : Hid (w3.heap[bt]? = some (.cells #[.int .i64 0, .int .i64 0] 24 (0, 0))) := (u3.block bt (lt_of_block T2.out)).trans T2.out
  clear u3 hc2
  have hk00 : (0 : Int) ≤ k0 := by omega
  by_cases hk1 : (k0 : Int) < 1
  · have hk1' : k0 = 0 := by omega
    have HK1 := Lib.hid hk1'
    clear hk1'
    go_wp2_with fail
    have HKZ : Hid ((1 : Int) = (sgK x s : Nat)) := by show _ = _; unfold sgK; rw [← HK0.out]; omega
    have hkz0 : (0 : Int) ≤ 1 := by omega
    have hkz1 : (1 : Int) < 1073741789 := by omega
    refine (spower_calls 4 1 _ elz4).mono ?_
    rintro e w4 ⟨rfl, u4⟩
    have U4 : Hid (Up w w4) := Up.trans U3.out u4
    have T4 : Hid (w4.heap[bt]? = some (.cells #[.int .i64 0, .int .i64 0] 24 (0, 0))) := (u4.block bt (lt_of_block T3.out)).trans T3.out
    obtain ⟨r1, hr1⟩ : ∃ r, r = Sq.pz (4 : Int).toNat 1 := ⟨_, rfl⟩
    have hr1b : r1 < 2147483579 := by rw [hr1]; exact Sq.pz_lt _ _
    rw [← hr1]
    have HR1 := Lib.hid hr1
    clear u4 hr1
    go_wp2_with fail
    refine (spower_calls 4 x _ elz4).mono ?_
    rintro e w5 ⟨rfl, u5⟩
    have U5 : Hid (Up w w5) := Up.trans U4.out u5
    have T5 : Hid (w5.heap[bt]? = some (.cells #[.int .i64 0, .int .i64 0] 24 (0, 0))) := (u5.block bt (lt_of_block T4.out)).trans T4.out
    obtain ⟨r2, hr2⟩ : ∃ r, r = Sq.pz (4 : Int).toNat (x : Int) := ⟨_, rfl⟩
    have hr2b : r2 < 2147483579 := by rw [hr2]; exact Sq.pz_lt _ _
    rw [← hr2]
    have HR2 := Lib.hid hr2
    clear u5 hr2
    go_wp2_with fail
    refine calls_named0 ?_
    intro W6 hW6
    obtain ⟨ba, hba⟩ : ∃ ba, ba = w5.heap.size := ⟨_, rfl⟩
    rw [← hba]
    have u6 : Up w5 W6 := by rw [hW6]; exact (Up.refl w5).alloc _
    have l6 : W6.heap[ba]? = some (.cells #[.iface 3 (.int .i64 r1), .iface 3 (.int .i64 r2), .iface 22 (.slice p s.size c)] 20 (0, 0)) := by rw [hW6, heap_new hba]
    have U6 : Hid (Up w W6) := Up.trans U5.out u6
    have T6 : Hid (W6.heap[bt]? = some (.cells #[.int .i64 0, .int .i64 0] 24 (0, 0))) := (u6.block bt (lt_of_block T5.out)).trans T5.out
    obtain ⟨ee, hee, hc6⟩ := shash3 tSign (by decide) ba r1 r2 s p c W6 hs (by omega) (by omega) l6 (HSB.out.up U6.out) (HT.out.up U6.out)
    have heb : ee < 1073741789 := by rw [hee]; exact hIts_lt _ _
    have HEE : Hid (ee = sgE x s) := by
      show _ = _
      rw [hee, sgE, HR1.out, HR2.out, HKZ.out]; rfl
    clear hW6 u6 l6 hee hba
    refine hc6.mono ?_
    rintro e w7 ⟨p7, m7, c7, rfl, u7, hc7⟩
    have U7 : Hid (Up w w7) := Up.trans U6.out u7
    have T7 : Hid (w7.heap[bt]? = some (.cells #[.int .i64 0, .int .i64 0] 24 (0, 0))) := (u7.block bt (lt_of_block T6.out)).trans T6.out
    clear u7 hc6
    go_wp2_with fail
    refine hc7.mono ?_
    rintro e w8 ⟨rfl, u8⟩
    have U8 : Hid (Up w w8) := Up.trans U7.out u8
    have t8 : w8.heap[bt]? = some (.cells #[.int .i64 0, .int .i64 0] 24 (0, 0)) := (u8.block bt (lt_of_block T7.out)).trans T7.out
    have c80 : w8.cell? ⟨bt, 0, none⟩ = some (.int .i64 0) := by rw [cell_of_row w8 bt 0 _ _ _ t8]; rfl
    have c81 : w8.cell? ⟨bt, 1, none⟩ = some (.int .i64 0) := by rw [cell_of_row w8 bt 1 _ _ _ t8]; rfl
    have f80 : w8.frozen? ⟨bt, 0, none⟩ = false := free_row t8 0
    have f81 : w8.frozen? ⟨bt, 1, none⟩ = false := free_row t8 1
    have hbu : w.heap.size ≤ bt := by rw [HBT.out]; exact Nat.le_refl _
    have T8 := Lib.hid t8
    clear u8 hc7 t8
    go_wp2_with fail
    refine (times_calls ee x _ (by omega) (by omega) (by omega) (by omega)).mono ?_
    rintro e w9 ⟨rfl, rfl⟩
    obtain ⟨tt, htt⟩ : ∃ tt : Int, tt = (ee : Int) * x % 1073741789 := ⟨_, rfl⟩
    rw [← htt]
    have htt0 : 0 ≤ tt := by omega
    have htt1 : tt < 1073741789 := by omega
    have HTT := Lib.hid htt
    clear htt
    go_wp2_with fail
    refine (plus_calls 1 tt _ hkz0 hkz1 htt0 htt1).mono ?_
    rintro e w9 ⟨rfl, rfl⟩
    go_wp2_with fail
    refine bodyPost_named ?_
    intro W9 hW9
    have h9 : W9.heap[bt]? = some (.cells #[.int .i64 ee, .int .i64 ((1 + tt) % 1073741789)] 24 (0, 0)) := by
      have a1 := heap_setCell_same w8 bt 0 _ _ (.int .i64 ee) T8.out
      have a2 := heap_setCell_same _ bt 1 _ _ (.int .i64 ((1 + tt) % 1073741789)) a1
      have a3 := heap_setCell_same _ bt 0 _ _ (.int .i64 ee) a2
      have a4 := heap_setCell_same _ bt 1 _ _ (.int .i64 ((1 + tt) % 1073741789)) a3
      rw [hW9]
      first | exact a4 | exact a2
    have k0' : W9.cell? ⟨bt, 0, none⟩ = some (.int .i64 ee) := by rw [cell_of_row W9 bt 0 _ _ _ h9]; rfl
    have k1' : W9.cell? ⟨bt, 1, none⟩ = some (.int .i64 ((1 + tt) % 1073741789)) := by rw [cell_of_row W9 bt 1 _ _ _ h9]; rfl
    have u9 : Up w W9 := by
      rw [hW9]
      first | exact (((U8.out.below.setCell hbu _).setCell hbu _).setCell hbu _).setCell hbu _ | exact (U8.out.below.setCell hbu _).setCell hbu _
    clear hW9 h9 c80 c81 f80 f81
    refine bodyPost_ret (v := .tuple #[.agg #[.int .i64 ee, .int .i64 ((1 + tt) % 1073741789)], .int .i64 0]) (by simp [results, Tryd.results8, go_sem, k0', k1']) rfl ⟨?_, u9⟩
    have e2 : ((1 + tt) % 1073741789 : Int) = ((sgS x s : Nat) : Int) := by
      have hx : ((sgE x s * x : Nat) : Int) = (sgE x s : Int) * x := Int.natCast_mul _ _
      have h1 := HKZ.out
      have h2 := HTT.out
      rw [HEE.out, ← hx] at h2
      rw [sgS]
      generalize sgE x s * x = y at *
      omega
    rw [e2, HEE.out]
  · have hk1'' : (1 : Int) ≤ k0 := by omega
    go_wp2_with fail
    have HKQ : Hid ((k0 : Int) = (sgK x s : Nat)) := by show _ = _; unfold sgK; rw [← HK0.out, Nat.max_eq_left (by omega)]
    have hkq0 : (0 : Int) ≤ (k0 : Int) := by omega
    have hkq1 : (k0 : Int) < 1073741789 := by omega
    refine (spower_calls 4 (k0 : Int) _ elz4).mono ?_
    rintro e w4 ⟨rfl, u4⟩
    have U4 : Hid (Up w w4) := Up.trans U3.out u4
    have T4 : Hid (w4.heap[bt]? = some (.cells #[.int .i64 0, .int .i64 0] 24 (0, 0))) := (u4.block bt (lt_of_block T3.out)).trans T3.out
    obtain ⟨r1, hr1⟩ : ∃ r, r = Sq.pz (4 : Int).toNat (k0 : Int) := ⟨_, rfl⟩
    have hr1b : r1 < 2147483579 := by rw [hr1]; exact Sq.pz_lt _ _
    rw [← hr1]
    have HR1 := Lib.hid hr1
    clear u4 hr1
    go_wp2_with fail
    refine (spower_calls 4 x _ elz4).mono ?_
    rintro e w5 ⟨rfl, u5⟩
    have U5 : Hid (Up w w5) := Up.trans U4.out u5
    have T5 : Hid (w5.heap[bt]? = some (.cells #[.int .i64 0, .int .i64 0] 24 (0, 0))) := (u5.block bt (lt_of_block T4.out)).trans T4.out
    obtain ⟨r2, hr2⟩ : ∃ r, r = Sq.pz (4 : Int).toNat (x : Int) := ⟨_, rfl⟩
    have hr2b : r2 < 2147483579 := by rw [hr2]; exact Sq.pz_lt _ _
    rw [← hr2]
    have HR2 := Lib.hid hr2
    clear u5 hr2
    go_wp2_with fail
    refine calls_named0 ?_
    intro W6 hW6
    obtain ⟨ba, hba⟩ : ∃ ba, ba = w5.heap.size := ⟨_, rfl⟩
    rw [← hba]
    have u6 : Up w5 W6 := by rw [hW6]; exact (Up.refl w5).alloc _
    have l6 : W6.heap[ba]? = some (.cells #[.iface 3 (.int .i64 r1), .iface 3 (.int .i64 r2), .iface 22 (.slice p s.size c)] 20 (0, 0)) := by rw [hW6, heap_new hba]
    have U6 : Hid (Up w W6) := Up.trans U5.out u6
    have T6 : Hid (W6.heap[bt]? = some (.cells #[.int .i64 0, .int .i64 0] 24 (0, 0))) := (u6.block bt (lt_of_block T5.out)).trans T5.out
    obtain ⟨ee, hee, hc6⟩ := shash3 tSign (by decide) ba r1 r2 s p c W6 hs (by omega) (by omega) l6 (HSB.out.up U6.out) (HT.out.up U6.out)
    have heb : ee < 1073741789 := by rw [hee]; exact hIts_lt _ _
    have HEE : Hid (ee = sgE x s) := by
      show _ = _
      rw [hee, sgE, HR1.out, HR2.out, HKQ.out]; rfl
    clear hW6 u6 l6 hee hba
    refine hc6.mono ?_
    rintro e w7 ⟨p7, m7, c7, rfl, u7, hc7⟩
    have U7 : Hid (Up w w7) := Up.trans U6.out u7
    have T7 : Hid (w7.heap[bt]? = some (.cells #[.int .i64 0, .int .i64 0] 24 (0, 0))) := (u7.block bt (lt_of_block T6.out)).trans T6.out
    clear u7 hc6
    go_wp2_with fail
    refine hc7.mono ?_
    rintro e w8 ⟨rfl, u8⟩
    have U8 : Hid (Up w w8) := Up.trans U7.out u8
    have t8 : w8.heap[bt]? = some (.cells #[.int .i64 0, .int .i64 0] 24 (0, 0)) := (u8.block bt (lt_of_block T7.out)).trans T7.out
    have c80 : w8.cell? ⟨bt, 0, none⟩ = some (.int .i64 0) := by rw [cell_of_row w8 bt 0 _ _ _ t8]; rfl
    have c81 : w8.cell? ⟨bt, 1, none⟩ = some (.int .i64 0) := by rw [cell_of_row w8 bt 1 _ _ _ t8]; rfl
    have f80 : w8.frozen? ⟨bt, 0, none⟩ = false := free_row t8 0
    have f81 : w8.frozen? ⟨bt, 1, none⟩ = false := free_row t8 1
    have hbu : w.heap.size ≤ bt := by rw [HBT.out]; exact Nat.le_refl _
    have T8 := Lib.hid t8
    clear u8 hc7 t8
    go_wp2_with fail
    refine (times_calls ee x _ (by omega) (by omega) (by omega) (by omega)).mono ?_
    rintro e w9 ⟨rfl, rfl⟩
    obtain ⟨tt, htt⟩ : ∃ tt : Int, tt = (ee : Int) * x % 1073741789 := ⟨_, rfl⟩
    rw [← htt]
    have htt0 : 0 ≤ tt := by omega
    have htt1 : tt < 1073741789 := by omega
    have HTT := Lib.hid htt
    clear htt
    go_wp2_with fail
    refine (plus_calls (k0 : Int) tt _ hkq0 hkq1 htt0 htt1).mono ?_
    rintro e w9 ⟨rfl, rfl⟩
    go_wp2_with fail
    refine bodyPost_named ?_
    intro W9 hW9
    have h9 : W9.heap[bt]? = some (.cells #[.int .i64 ee, .int .i64 (((k0 : Int) + tt) % 1073741789)] 24 (0, 0)) := by
      have a1 := heap_setCell_same w8 bt 0 _ _ (.int .i64 ee) T8.out
      have a2 := heap_setCell_same _ bt 1 _ _ (.int .i64 (((k0 : Int) + tt) % 1073741789)) a1
      have a3 := heap_setCell_same _ bt 0 _ _ (.int .i64 ee) a2
      have a4 := heap_setCell_same _ bt 1 _ _ (.int .i64 (((k0 : Int) + tt) % 1073741789)) a3
      rw [hW9]
      first | exact a4 | exact a2
    have k0' : W9.cell? ⟨bt, 0, none⟩ = some (.int .i64 ee) := by rw [cell_of_row W9 bt 0 _ _ _ h9]; rfl
    have k1' : W9.cell? ⟨bt, 1, none⟩ = some (.int .i64 (((k0 : Int) + tt) % 1073741789)) := by rw [cell_of_row W9 bt 1 _ _ _ h9]; rfl
    have u9 : Up w W9 := by
      rw [hW9]
      first | exact (((U8.out.below.setCell hbu _).setCell hbu _).setCell hbu _).setCell hbu _ | exact (U8.out.below.setCell hbu _).setCell hbu _
    clear hW9 h9 c80 c81 f80 f81
    refine bodyPost_ret (v := .tuple #[.agg #[.int .i64 ee, .int .i64 (((k0 : Int) + tt) % 1073741789)], .int .i64 0]) (by simp [results, Tryd.results8, go_sem, k0', k1']) rfl ⟨?_, u9⟩
    have e2 : (((k0 : Int) + tt) % 1073741789 : Int) = ((sgS x s : Nat) : Int) := by
      have hx : ((sgE x s * x : Nat) : Int) = (sgE x s : Int) * x := Int.natCast_mul _ _
      have h1 := HKQ.out
      have h2 := HTT.out
      rw [HEE.out, ← hx] at h2
      rw [sgS]
      generalize sgE x s * x = y at *
      omega
    rw [e2, HEE.out]

end Go.Proofs.YthjglkpkeffmpaaDoor
