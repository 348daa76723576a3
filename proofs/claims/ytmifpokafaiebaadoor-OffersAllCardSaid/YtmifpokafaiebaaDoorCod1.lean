/- THE WALKS OF PACKAGE codec, 1: unsigned, numeral. -/
import Derived.Test.YtmifpokafaiebaaDoorOwn
import Derived.Test.YtmifpokafaiebaaDoorEnc
import Derived.Test.YtmifpokafaiebaaDoorMix
namespace Go.Proofs.YtmifpokafaiebaaDoor
open Go.RowKit
set_option linter.unusedVariables false
set_option maxRecDepth 100000

theorem xor_max64 (e : Nat) (he : e < 18446744073709551616) : e ^^^ 18446744073709551615 = 18446744073709551615 - e := by
  have := congrArg BitVec.toNat (BitVec.allOnes_xor (x := BitVec.ofNat 64 e))
  rw [Nat.xor_comm]
  simpa [BitVec.toNat_xor, BitVec.toNat_not, BitVec.toNat_allOnes, Nat.mod_eq_of_lt he] using this

theorem zz_val (n : Int) (h1 : -9223372036854775808 ≤ n) (h2 : n ≤ 9223372036854775807) :
    bits BinOp.xor IntKind.u64 (IntKind.u64.wrap (IntKind.u64.wrap n * 2)) (IntKind.u64.wrap (n / 9223372036854775808)) = ((Enc.zz n : Nat) : Int) := by
  rw [IntKind.wrap_u64, IntKind.wrap_u64, IntKind.wrap_u64]
  unfold Enc.zz
  by_cases hn : n < 0
  · rw [if_pos hn]
    obtain ⟨m, hm⟩ : ∃ m : Nat, (m : Int) = -(n + 1) := ⟨(-(n + 1)).toNat, by omega⟩
    have e1 : (n % 18446744073709551616 * 2 % 18446744073709551616) = ((18446744073709551616 - 2 * m - 2 : Nat) : Int) := by omega
    have e2 : (n / 9223372036854775808 % 18446744073709551616) = ((18446744073709551615 : Nat) : Int) := by omega
    rw [e1, e2, bits_xor_u64_nat _ _ (by omega) (by omega), xor_max64 _ (by omega)]
    omega
  · rw [if_neg hn]
    obtain ⟨m, rfl⟩ := Int.eq_ofNat_of_zero_le (show 0 ≤ n by omega)
    have e1 : ((m : Int) % 18446744073709551616 * 2 % 18446744073709551616) = ((m * 2 : Nat) : Int) := by omega
    have e2 : ((m : Int) / 9223372036854775808 % 18446744073709551616) = ((0 : Nat) : Int) := by omega
    rw [e1, e2, bits_xor_u64_nat _ _ (by omega) (by omega), Nat.xor_zero]
    omega

set_option maxRecDepth 100000 in
theorem unsigned_calls (n : Int) (w : World) (h1 : -9223372036854775808 ≤ n) (h2 : n ≤ 9223372036854775807) :
    Calls Tryd.prog 60 #[.int .i64 n] w fun e w' => e = .returned (.int .u64 (Enc.zz n : Nat)) ∧ w = w' := by
  have hz := Lib.hid (zz_val n h1 h2)
  go_enter Tryd.func60, Tryd.ntmps60
  go_wp2
  go_ret
  exact ⟨by rw [← hz.out]; rfl, rfl⟩

theorem u8_or128 (u : Nat) : bits BinOp.or IntKind.u8 ((u : Int) % 256) 128 = ((u % 128 + 128 : Nat) : Int) := by
  have h : ∀ c : BitVec 8, (c ||| 128#8).toNat = c.toNat % 128 + 128 := by decide
  have := h (BitVec.ofNat 8 u)
  have e : ((u : Int) % 256) = ((u % 256 : Nat) : Int) := by omega
  rw [e]
  show IntKind.u8.wrap ((BitVec.ofInt 8 ((u % 256 : Nat) : Int) ||| BitVec.ofInt 8 128).toNat : Int) = _
  have e2 : BitVec.ofInt 8 ((u % 256 : Nat) : Int) = BitVec.ofNat 8 u := by
    rw [BitVec.ofInt_natCast]; apply BitVec.eq_of_toNat_eq; simp
  rw [e2, show BitVec.ofInt 8 128 = 128#8 from rfl, this]
  have : (BitVec.ofNat 8 u).toNat % 128 = u % 128 := by rw [BitVec.toNat_ofNat]; omega
  rw [this]
  simp [IntKind.wrap, IntKind.bits, IntKind.signed]
  omega

set_option maxRecDepth 100000 in
set_option maxHeartbeats 1000000 in
theorem numeral_calls (base u : Nat) (v : Value) (l : List UInt8) (w : World) (hu : u < 18446744073709551616) (ho : Own w base v l) (hl : l.length ≤ 2147483648) (hb : base ≤ w.heap.size) :
    Calls Tryd.prog 59 #[v, .int .u64 (u : Nat)] w fun e w' => ∃ v', e = .returned v' ∧ Own w' base v' (l ++ Enc.num u) ∧ Below base w w' ∧ Grow w w' v v' := by
  have O := Lib.hid ho
  clear ho
  go_enter Tryd.func59, Tryd.ntmps59
  go_wp2_with fail
  go_loopw [0, 1] (fun vb vu wq => ∃ (x : Nat), vu = .int .u64 x ∧ x < 18446744073709551616 ∧ Hid (∃ k L, k ≤ 9 ∧ x < 2 ^ (64 - 7 * k) ∧ Own wq base vb L ∧ L ++ Enc.numF (10 - k) x = l ++ Enc.num u ∧ L.length = l.length + k) ∧ Hid (Below base w wq) ∧ Hid (Grow w wq v vb))
    (fun _ vu _ => (intOf vu).toNat)
  case atStart => exact ⟨u, rfl, hu, ⟨0, l, by omega, by simpa using hu, O.out, rfl, rfl⟩, Below.refl _ _, Grow.refl _ _⟩
  case round =>
    obtain ⟨x, rfl, hx, HK, HB, HG⟩ := hrel
    obtain ⟨k, L, hk, hxk, hL, hLe, hLl⟩ := HK.out
    have hbw : base ≤ wr.heap.size := Nat.le_trans hb HB.out.size
    have O1 := Lib.hid hL
    have HLE := Lib.hid hLe
    have HLL := Lib.hid hLl
    have HX := Lib.hid hxk
    by_cases h128 : 128 ≤ x
    · have hor := Lib.hid (u8_or128 x)
      have hk9 : k < 9 := by
        rcases Nat.lt_or_ge k 9 with h | h
        · exact h
        · have : k = 9 := by omega
          subst this
          simp at hxk; omega
      clear HK hL hLe hLl hxk
      go_wp2_with (at_builtin; refine wpList_app1 rfl (.tmp 9) (.tmp 13) rfl rfl base _ L _ (x % 128 + 128) rfl rfl hor.out (by omega) O1.out (by have := HLL.out; omega) hbw ?_; intro v3 W3 o3 b3 g3; have O3 := Lib.hid o3; have B3 := Lib.hid b3; have G3 := Lib.hid g3; clear o3 b3 g3)
      have hstep : Enc.numF (10 - k) x = UInt8.ofNat (x % 128 + 128) :: Enc.numF (10 - (k + 1)) (x / 128) := by
        rw [show 10 - k = (10 - (k + 1)) + 1 by omega, Enc.numF, if_neg (by omega)]
      refine ⟨⟨x / 128, by go_num, by omega, ⟨k + 1, _, by omega, ?_, O3.out, ?_, ?_⟩, Below.trans HB.out B3.out, Grow.trans HG.out G3.out⟩, by simp [intOf]; omega⟩
      · have h := HX.out
        have e : 2 ^ (64 - 7 * k) = 2 ^ (64 - 7 * (k + 1)) * 128 := by
          rw [show 64 - 7 * k = (64 - 7 * (k + 1)) + 7 by omega, Nat.pow_add]
        rw [e] at h
        exact Nat.div_lt_of_lt_mul (by rw [Nat.mul_comm]; exact h)
      · rw [← HLE.out, hstep]; simp
      · rw [List.length_append, HLL.out]; simp; omega
    · have hmod : Hid (((x : Int) % 256) = (x : Nat)) := by show _ = _; omega
      clear HK hL hLe hLl hxk
      go_wp2_with (at_builtin; refine wpList_app1 rfl (.tmp 15) (.tmp 18) rfl rfl base _ L _ x rfl rfl (by first | rfl | exact hmod.out) (by omega) O1.out (by have := HLL.out; omega) hbw ?_; intro v3 W3 o3 b3 g3; have O3 := Lib.hid o3; have B3 := Lib.hid b3; have G3 := Lib.hid g3; clear o3 b3 g3)
      go_ret
      have hstep : Enc.numF (10 - k) x = [UInt8.ofNat x] := by
        rw [show 10 - k = (10 - (k + 1)) + 1 by omega, Enc.numF, if_pos (by omega)]
      refine ⟨_, rfl, ?_, Below.trans HB.out B3.out, Grow.trans HG.out G3.out⟩
      rw [← HLE.out, hstep]
      exact O3.out

end Go.Proofs.YtmifpokafaiebaaDoor
