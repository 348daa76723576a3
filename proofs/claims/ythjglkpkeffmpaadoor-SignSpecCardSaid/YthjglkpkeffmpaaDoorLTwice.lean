/- THE WALK OF acequialaw11.SignTwice. -/
import Derived.Test.YthjglkpkeffmpaaDoorPoint
import Derived.Test.YthjglkpkeffmpaaDoorRef11
namespace Go.Proofs.YthjglkpkeffmpaaDoor
open Go.RowKit Go.Shelf
set_option linter.unusedVariables false

/-- is it right? -/
def vOk (key E S : Int) (s : ByteArray) : Bool :=
  decide (0 ≤ E ∧ E < 1073741789 ∧ 0 ≤ S ∧ S < 1073741789) && elz key && (E == (hIts tSign [.inl (sgR key E S : Nat), .inl key, .inr s] : Nat))

theorem verify_any (key E S : Int) (s : ByteArray) (p : Option Addr) (c : Nat) (w : World) (hs : s.size ≤ 600) (hsb : SB w p s.data.toList) (htab : Tabs w) :
    Calls Tryd.prog 10 #[.int .i64 key, .slice p s.size c, .agg #[.int .i64 E, .int .i64 S]] w fun e w' => e = .returned (.bool (vOk key E S s)) ∧ Up w w' := by
  by_cases h : 0 ≤ E ∧ E < 1073741789 ∧ 0 ≤ S ∧ S < 1073741789
  · cases hk : elz key with
    | false =>
      rw [show vOk key E S s = false by simp [vOk, hk]]
      exact verify_key key E S _ w h.1 h.2.1 h.2.2.1 h.2.2.2 hk
    | true =>
      rw [show vOk key E S s = (E == (hIts tSign [.inl (sgR key E S : Nat), .inl key, .inr s] : Nat)) by unfold vOk; rw [hk, decide_eq_true h]; rfl]
      exact verify_val key E S s p c w h.1 h.2.1 h.2.2.1 h.2.2.2 hk hs hsb htab
  · rw [show vOk key E S s = false by unfold vOk; rw [decide_eq_false h]; rfl]
    exact verify_out key E S _ w (by omega)

theorem vOk_facts {key E S : Int} {s : ByteArray} (h : vOk key E S s = true) : 0 ≤ E ∧ E < 1073741789 ∧ 0 ≤ S ∧ S < 1073741789 ∧ elz key = true := by
  simp only [vOk, Bool.and_eq_true, decide_eq_true_eq] at h
  exact ⟨h.1.1.1, h.1.1.2.1, h.1.1.2.2.1, h.1.1.2.2.2, h.1.2⟩

theorem emod_mul_l (a b q : Int) : a % q * b % q = a * b % q := by rw [Int.mul_emod, Int.emod_emod_of_dvd _ (Int.dvd_refl _), ← Int.mul_emod]
theorem emod_mul_r (a b q : Int) : a * (b % q) % q = a * b % q := by rw [Int.mul_comm, emod_mul_l, Int.mul_comm]

/-- the secret that two signatures give away -/
def twQ (E F S T : Int) (n : Nat) : Int := (S - T) % 1073741789 * ((((E - F) % 1073741789).toNat ^ n % 1073741789 : Nat) % 1073741789 : Int) % 1073741789
theorem twQ_range (E F S T : Int) (n : Nat) : 0 ≤ twQ E F S T n ∧ twQ E F S T n < 1073741789 := by
  unfold twQ
  exact ⟨Int.emod_nonneg _ (by omega), Int.emod_lt_of_pos _ (by omega)⟩
theorem twQ_key {key E F S T : Int} {n : Nat} (hn : n = 1073741787) (hk : elz key = true) (hp : sgR key E S = sgR key F T) (hd : (E - F) % 1073741789 ≠ 0) : (Sq.pz 4 (twQ E F S T n) : Int) = key := by
  have hkr := elz_range hk
  obtain ⟨k, rfl⟩ := Int.eq_ofNat_of_zero_le (show 0 ≤ key by omega)
  rw [elz_nat] at hk
  unfold sgR at hp
  rw [Int.toNat_natCast] at hp
  obtain ⟨a, ha⟩ : ∃ a, a = ((E - F) % 1073741789).toNat := ⟨_, rfl⟩
  have ha1 : 1 ≤ a := by omega
  have ha2 : a < 1073741789 := by omega
  have hi := Sg.inv_right hn ha1 ha2
  obtain ⟨d, hd2⟩ : ∃ d, d = a ^ n % 1073741789 := ⟨_, rfl⟩
  have hd3 : d < 1073741789 := by rw [hd2]; exact Nat.mod_lt _ (by omega)
  rw [← hd2] at hi
  have hda : (E - F) % 1073741789 = (a : Int) := by omega
  have key2 := Sg.secret_of hk E S F T d (twQ E F S T n) hp ?_ ?_
  · rw [key2]
  · have e1 : (E - F) * (d : Int) % 1073741789 = (a : Int) * d % 1073741789 := by rw [← hda, emod_mul_l]
    rw [e1]
    have e2 : ((a * d % 1073741789 : Nat) : Int) = 1 := by rw [hi]; rfl
    rw [← e2]
    simp
  · unfold twQ
    rw [← ha, ← hd2, Int.emod_emod_of_dvd _ (Int.dvd_refl _), emod_mul_l, emod_mul_r]

set_option maxRecDepth 100000 in
set_option maxHeartbeats 1000000 in
theorem twice_long (key E S F T : Int) (p1 p2 p3 : Option Addr) (n1 n2 n3 c1 c2 c3 : Nat) (w : World) (hn : 600 < n1 ∨ 600 < n2 ∨ 600 < n3) (hc1 : n1 ≤ c1) (hm1 : c1 ≤ maxLen) (hc2 : n2 ≤ c2) (hm2 : c2 ≤ maxLen) (hc3 : n3 ≤ c3) (hm3 : c3 ≤ maxLen) (htab : Tabs w) :
    Calls Tryd.prog 6 #[.int .i64 key, .slice p1 n1 c1, .slice p2 n2 c2, .slice p3 n3 c3, .agg #[.int .i64 E, .int .i64 S], .agg #[.int .i64 F, .int .i64 T]] w fun e w' => e = .returned (.bool true) ∧ Up w w' := by
  have HT := Lib.hid htab
  have HN := Lib.hid hn
  clear htab hn
  go_enter Tryd.func6, Tryd.ntmps6
  go_wp2_with fail
  refine calls_named0 ?_
  intro W1 hW1
  have U1 : Hid (Up w W1) := by show Up w W1; rw [hW1]; exact ((Up.refl w).alloc _).alloc _
  clear hW1
  refine (sane11_calls _ (HT.out.up U1.out)).mono ?_
  rintro e w2 ⟨rfl, u2⟩
  have U2 : Hid (Up w w2) := Up.trans U1.out u2
  clear u2
  by_cases g1 : 600 < n1
  · go_wp2_with fail
    go_ret
    exact ⟨rfl, U2.out⟩
  · by_cases g2 : 600 < n2
    · go_wp2_with fail
      go_ret
      exact ⟨rfl, U2.out⟩
    · have g3 : 600 < n3 := by have := HN.out; omega
      go_wp2_with fail
      go_ret
      exact ⟨rfl, U2.out⟩

/-- the two blocks of the signatures -/
def Two (b1 b2 : Nat) (E S F T : Int) (w : World) : Prop :=
  w.heap[b1]? = some (.cells #[.int .i64 E, .int .i64 S] 24 (0, 0)) ∧ w.heap[b2]? = some (.cells #[.int .i64 F, .int .i64 T] 24 (0, 0))
theorem Two.up {b1 b2 : Nat} {E S F T : Int} {w w' : World} (h : Two b1 b2 E S F T w) (hu : Up w w') : Two b1 b2 E S F T w' :=
  ⟨(hu.block b1 (lt_of_block h.1)).trans h.1, (hu.block b2 (lt_of_block h.2)).trans h.2⟩
theorem Two.a0 {b1 b2 : Nat} {E S F T : Int} {w : World} (h : Two b1 b2 E S F T w) : w.cell? ⟨b1, 0, none⟩ = some (.int .i64 E) := by rw [cell_of_row w b1 0 _ _ _ h.1]; rfl
theorem Two.a1 {b1 b2 : Nat} {E S F T : Int} {w : World} (h : Two b1 b2 E S F T w) : w.cell? ⟨b1, 1, none⟩ = some (.int .i64 S) := by rw [cell_of_row w b1 1 _ _ _ h.1]; rfl
theorem Two.b0 {b1 b2 : Nat} {E S F T : Int} {w : World} (h : Two b1 b2 E S F T w) : w.cell? ⟨b2, 0, none⟩ = some (.int .i64 F) := by rw [cell_of_row w b2 0 _ _ _ h.2]; rfl
theorem Two.b1 {b1 b2 : Nat} {E S F T : Int} {w : World} (h : Two b1 b2 E S F T w) : w.cell? ⟨b2, 1, none⟩ = some (.int .i64 T) := by rw [cell_of_row w b2 1 _ _ _ h.2]; rfl

set_option maxRecDepth 100000 in
set_option maxHeartbeats 1000000 in
theorem twice_main (key E S F T : Int) (s1 s2 s3 : ByteArray) (p1 p2 p3 : Option Addr) (c1 c2 c3 : Nat) (w : World) (hn1 : s1.size ≤ 600) (hn2 : s2.size ≤ 600) (hn3 : s3.size ≤ 600)
    (hc1 : s1.size ≤ c1) (hm1 : c1 ≤ maxLen) (hc2 : s2.size ≤ c2) (hm2 : c2 ≤ maxLen) (hc3 : s3.size ≤ c3) (hm3 : c3 ≤ maxLen) (hb1 : SB w p1 s1.data.toList) (hb2 : SB w p2 s2.data.toList) (hb3 : SB w p3 s3.data.toList) (htab : Tabs w) :
    Calls Tryd.prog 6 #[.int .i64 key, .slice p1 s1.size c1, .slice p2 s2.size c2, .slice p3 s3.size c3, .agg #[.int .i64 E, .int .i64 S], .agg #[.int .i64 F, .int .i64 T]] w fun e w' => e = .returned (.bool true) ∧ Up w w' := by
  have HT := Lib.hid htab
  have HB1 := Lib.hid hb1
  have HB2 := Lib.hid hb2
  have HB3 := Lib.hid hb3
  have V1 := Lib.hid fun w (a : SB w p1 s1.data.toList) (b : Tabs w) => verify_any key E S s1 p1 c1 w hn1 a b
  have V2 := Lib.hid fun w (a : SB w p2 s2.data.toList) (b : Tabs w) => verify_any key F T s2 p2 c2 w hn2 a b
  have SY := Lib.hid fun (x : Nat) w (a : 1 ≤ x) (b : x < 1073741789) (c : SB w p3 s3.data.toList) (d : Tabs w) => sign_yes x s3 p3 c3 w a b hn3 c d
  have VR := Lib.hid fun (x : Nat) w (c : SB w p3 s3.data.toList) (d : Tabs w) => verify_right x s3 p3 c3 w hn3 c d
  have hF1 : Hid (vOk key E S s1 = true → 0 ≤ E ∧ E < 1073741789 ∧ 0 ≤ S ∧ S < 1073741789 ∧ elz key = true) := vOk_facts
  have hF2 : Hid (vOk key F T s2 = true → 0 ≤ F ∧ F < 1073741789 ∧ 0 ≤ T ∧ T < 1073741789 ∧ elz key = true) := vOk_facts
  generalize vOk key E S s1 = k1 at V1 hF1
  generalize vOk key F T s2 = k2 at V2 hF2
  obtain ⟨n1, e1⟩ : ∃ n, n = s1.size := ⟨_, rfl⟩
  obtain ⟨n2, e2⟩ : ∃ n, n = s2.size := ⟨_, rfl⟩
  obtain ⟨n3, e3⟩ : ∃ n, n = s3.size := ⟨_, rfl⟩
  rw [← e1] at V1 hn1 hc1
  rw [← e2] at V2 hn2 hc2
  rw [← e3] at SY VR hn3 hc3
  rw [← e1, ← e2, ← e3]
  clear htab hb1 hb2 hb3 e1 e2 e3
  obtain ⟨b1, hb1⟩ : ∃ b, b = w.heap.size := ⟨_, rfl⟩
  obtain ⟨b2, hb2⟩ : ∃ b, b = w.heap.size + 1 := ⟨_, rfl⟩
  go_enter Tryd.func6, Tryd.ntmps6
  go_wp2_with fail
  rw [← hb2, ← hb1]
  refine calls_named0 ?_
  intro W1 hW1
  have U1 : Hid (Up w W1) := by show Up w W1; rw [hW1]; exact ((Up.refl w).alloc _).alloc _
  have X1 : Hid (Two b1 b2 E S F T W1) := ⟨by rw [hW1, heap_old (by rw [hb1]; simp), heap_new hb1], by rw [hW1, heap_new (by rw [hb2]; simp)]⟩
  clear hW1 hb1 hb2
  refine (sane11_calls _ (HT.out.up U1.out)).mono ?_
  rintro e w2 ⟨rfl, u2⟩
  have U2 : Hid (Up w w2) := Up.trans U1.out u2
  have X2 : Hid (Two b1 b2 E S F T w2) := X1.out.up u2
  have q0 := X2.out.a0
  have q1 := X2.out.a1
  clear u2
  go_wp2_with fail
  refine (V1.out _ (HB1.out.up U2.out) (HT.out.up U2.out)).mono ?_
  rintro e w3 ⟨rfl, u3⟩
  have U3 : Hid (Up w w3) := Up.trans U2.out u3
  have X3 : Hid (Two b1 b2 E S F T w3) := X2.out.up u3
  clear u3 q0 q1
  have q0 := X3.out.b0
  have q1 := X3.out.b1
  cases k1 with
  | false =>
    go_wp2_with fail
    go_ret
    exact ⟨rfl, U3.out⟩
  | true =>
  go_wp2_with fail
  refine (V2.out _ (HB2.out.up U3.out) (HT.out.up U3.out)).mono ?_
  rintro e w4 ⟨rfl, u4⟩
  have U4 : Hid (Up w w4) := Up.trans U3.out u4
  have X4 : Hid (Two b1 b2 E S F T w4) := X3.out.up u4
  clear u4 q0 q1
  have q0 := X4.out.a0
  have q1 := X4.out.a1
  cases k2 with
  | false =>
    go_wp2_with fail
    go_ret
    exact ⟨rfl, U4.out⟩
  | true =>
  obtain ⟨h1, h2, h3, h4, hk⟩ := hF1.out (by first | rfl | trivial)
  obtain ⟨h5, h6, h7, h8, _⟩ := hF2.out (by first | rfl | trivial)
  have HK := Lib.hid hk
  have P1 := Lib.hid fun w => point_calls key E S w h1 h2 h3 h4 hk
  have P2 := Lib.hid fun w => point_calls key F T w h5 h6 h7 h8 hk
  have hkr := elz_range hk
  obtain ⟨r1, hr1⟩ : ∃ r, r = sgR key E S := ⟨_, rfl⟩
  obtain ⟨r2, hr2⟩ : ∃ r, r = sgR key F T := ⟨_, rfl⟩
  rw [← hr1] at P1
  rw [← hr2] at P2
  have HR1 := Lib.hid hr1
  have HR2 := Lib.hid hr2
  clear hk hr1 hr2 hF1 hF2 V1 V2
  go_wp2_with fail
  refine (P1.out _).mono ?_
  rintro e w5 ⟨rfl, u5⟩
  have U5 : Hid (Up w w5) := Up.trans U4.out u5
  have X5 : Hid (Two b1 b2 E S F T w5) := X4.out.up u5
  clear u5 q0 q1
  have q0 := X5.out.b0
  have q1 := X5.out.b1
  go_wp2_with fail
  refine (P2.out _).mono ?_
  rintro e w6 ⟨rfl, u6⟩
  have U6 : Hid (Up w w6) := Up.trans U5.out u6
  have X6 : Hid (Two b1 b2 E S F T w6) := X5.out.up u6
  clear u6 q0 q1
  have q0 := X6.out.a0
  have q1 := X6.out.a1
  have q2 := X6.out.b0
  have q3 := X6.out.b1
  have m1 : IntKind.i64.wrap (E - F) = E - F := IntWalk.i64_in _ (by omega)
  have m2 : wrap64 (E - F) = E - F := wrap64_id (by omega) (by omega)
  have m3 : IntKind.i64.wrap (S - T) = S - T := IntWalk.i64_in _ (by omega)
  have m4 : wrap64 (S - T) = S - T := wrap64_id (by omega) (by omega)
  by_cases hr : r1 = r2
  · subst hr
    go_wp2_with fail
    refine (mod11_calls _ _).mono ?_
    rintro e w7 ⟨rfl, rfl⟩
    obtain ⟨d0, hd0⟩ : ∃ d, d = (E - F) % 1073741789 := ⟨_, rfl⟩
    rw [← hd0]
    have HD0 := Lib.hid hd0
    clear hd0
    by_cases hz : d0 = 0
    · subst hz
      go_wp2_with fail
      go_ret
      exact ⟨rfl, U6.out⟩
    · have hz' : (d0 == 0) = false := by rw [beq_eq_false_iff_ne]; exact hz
      obtain ⟨nn, hnn⟩ : ∃ n : Nat, n = 1073741787 := ⟨_, rfl⟩
      have QT : Hid (∀ w, Calls Tryd.prog 18 #[.int .i64 (S - T), .int .i64 (E - F)] w fun e w' => e = .returned (.int .i64 (twQ E F S T nn)) ∧ w = w') := fun w => quot11_calls (S - T) (E - F) nn w hnn
      have hkey := twQ_key hnn HK.out (HR1.out.symm.trans HR2.out) (by rw [← HD0.out]; exact hz)
      have hqr := twQ_range E F S T nn
      generalize twQ E F S T nn = q at QT hkey hqr
      clear hnn
      have HKEY := Lib.hid hkey
      clear hkey
      go_wp2_with fail
      refine (QT.out _).mono ?_
      rintro e w7 ⟨rfl, rfl⟩
      have PW := Lib.hid fun w => pow_yes (n := q) w elz4
      rw [show ((4 : Int).toNat) = 4 from rfl, HKEY.out] at PW
      clear q0 q1 q2 q3 m1 m2 m3 m4
      go_wp2_with fail
      refine (PW.out _).mono ?_
      rintro e w8 ⟨rfl, u8⟩
      have u8 : Up w6 w8 := u8
      have U8 : Hid (Up w w8) := Up.trans U6.out u8
      clear u8
      go_wp2_with fail
      by_cases hq : q = 0
      · subst hq
        refine (sign_no 0 _ _ (by omega)).mono ?_
        rintro e w9 ⟨rfl, u9⟩
        have U9 : Hid (Up w w9) := Up.trans U8.out u9
        clear u9
        go_wp2_with fail
        go_ret
        exact ⟨rfl, U9.out.alloc _⟩
      · obtain ⟨x, rfl⟩ := Int.eq_ofNat_of_zero_le hqr.1
        have hx1 : 1 ≤ x := by omega
        have hx2 : x < 1073741789 := by omega
        have hq' : ((x : Int) == 0) = false := by rw [beq_eq_false_iff_ne]; exact hq
        refine (SY.out x _ hx1 hx2 (HB3.out.up U8.out) (HT.out.up U8.out)).mono ?_
        rintro e w9 ⟨rfl, u9⟩
        have U9 : Hid (Up w w9) := Up.trans U8.out u9
        have VX := Lib.hid (VR.out x)
        rw [HKEY.out] at VX
        clear u9
        go_wp2_with fail
        refine calls_named0 ?_
        intro W10 hW10
        have U10 : Hid (Up w W10) := by show Up w W10; rw [hW10]; exact U9.out.alloc _
        clear hW10
        refine (VX.out _ (HB3.out.up U10.out) (HT.out.up U10.out)).mono ?_
        rintro e w11 ⟨rfl, u11⟩
        have U11 : Hid (Up w w11) := Up.trans U10.out u11
        clear u11
        go_wp2_with fail
        go_ret
        exact ⟨rfl, U11.out⟩
  · have hr' : ((r1 : Int) == r2) = false := by rw [beq_eq_false_iff_ne]; omega
    go_wp2_with fail
    go_ret
    exact ⟨rfl, U6.out⟩

theorem lawTwice_calls (key E S F T : Int) (l1 l2 l3 : List UInt8) (p1 p2 p3 : Option Addr) (c1 c2 c3 : Nat) (w : World) (hc1 : l1.length ≤ c1) (hm1 : c1 ≤ maxLen) (hc2 : l2.length ≤ c2) (hm2 : c2 ≤ maxLen) (hc3 : l3.length ≤ c3) (hm3 : c3 ≤ maxLen)
    (hb1 : SB w p1 l1) (hb2 : SB w p2 l2) (hb3 : SB w p3 l3) (h0 : Tab0 w) (h1 : Tab w) :
    Calls Tryd.prog 6 #[.int .i64 key, .slice p1 l1.length c1, .slice p2 l2.length c2, .slice p3 l3.length c3, .agg #[.int .i64 E, .int .i64 S], .agg #[.int .i64 F, .int .i64 T]] w fun e w' => e = .returned (.bool true) ∧ Up w w' := by
  by_cases hn : 600 < l1.length ∨ 600 < l2.length ∨ 600 < l3.length
  · exact twice_long key E S F T p1 p2 p3 _ _ _ c1 c2 c3 w hn hc1 hm1 hc2 hm2 hc3 hm3 ⟨h0, h1⟩
  · exact twice_main key E S F T ⟨l1.toArray⟩ ⟨l2.toArray⟩ ⟨l3.toArray⟩ p1 p2 p3 c1 c2 c3 w (by show l1.length ≤ 600; omega) (by show l2.length ≤ 600; omega) (by show l3.length ≤ 600; omega) hc1 hm1 hc2 hm2 hc3 hm3 hb1 hb2 hb3 ⟨h0, h1⟩

end Go.Proofs.YthjglkpkeffmpaaDoor
