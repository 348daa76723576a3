/- THE REFERENCE CODEC acequiaref01: unsigned, numeral. -/
import Derived.Test.YtmifpokafaiebaaDoorCod1
namespace Go.Proofs.YtmifpokafaiebaaDoor
open Go.RowKit
set_option linter.unusedVariables false
set_option maxRecDepth 100000

set_option maxRecDepth 100000 in
theorem rc_unsigned (n : Int) (w : World) (h1 : -9223372036854775808 ≤ n) (h2 : n ≤ 9223372036854775807) :
    Calls Tryd.prog 66 #[.int .i64 n] w fun e w' => e = .returned (.int .u64 (Enc.zz n : Nat)) ∧ w = w' := by
  by_cases h : 0 ≤ n
  · have e : ((Enc.zz n : Nat) : Int) = 2 * n := by unfold Enc.zz; rw [if_neg (by omega)]; omega
    rw [e]
    go_enter Tryd.func66, Tryd.ntmps66
    go_wp2
    go_ret
    exact ⟨rfl, rfl⟩
  · have e : ((Enc.zz n : Nat) : Int) = 2 * (-(n + 1)) + 1 := by unfold Enc.zz; rw [if_pos (by omega)]; omega
    rw [e]
    have h' : n < 0 := by omega
    go_enter Tryd.func66, Tryd.ntmps66
    go_wp2
    go_ret
    exact ⟨rfl, rfl⟩

theorem bodyPost_nm {P : Program} {fn : Func} {post : Ending → World → Prop} {e : Exit} {a : Act} {w0 : World} (h : ∀ W, W = w0 → bodyPost P fn post e a W) : bodyPost P fn post e a w0 := h _ rfl
theorem calls_nm {P : Program} {f : FuncId} {args : Array Value} {w0 : World} {Q : Ending → World → Prop} (h : ∀ W, W = w0 → Calls P f args W Q) : Calls P f args w0 Q := h _ rfl

/-- a literal of one byte is an own row -/
theorem own_lit {w W : World} {n : Nat} {z : Int} (hz : z = (n : Nat)) (hn : n < 256) (h : W = w.alloc (.cells #[.int .u8 z] 5 (0, 0))) : Own W w.heap.size (.slice (some ⟨w.heap.size, 0, none⟩) 1 1) [UInt8.ofNat n] := by
  subst hz h
  refine ⟨rfl, .inr ⟨w.heap.size, 1, _, rfl, Nat.le_refl _, heap_new rfl, Nat.le_refl _, by unfold maxLen; omega, rfl, ?_⟩⟩
  have e : (UInt8.ofNat n).toNat = n := by rw [UInt8.toNat_ofNat', Nat.mod_eq_of_lt hn]
  simp [u8s, e]

set_option maxRecDepth 100000 in
set_option maxHeartbeats 1000000 in
theorem rc_numF (f : Nat) : ∀ (u : Nat) (w : World), u < 128 ^ (f + 1) → f < 10 → u < 18446744073709551616 →
    Calls Tryd.prog 65 #[.int .u64 (u : Nat)] w fun e w' => ∃ v', e = .returned v' ∧ Own w' w.heap.size v' (Enc.numF (f + 1) u) ∧ Up w w' := by
  induction f with
  | zero =>
    intro u w hu hf hu2
    have h128 : u < 128 := by simpa using hu
    rw [Enc.numF, if_pos h128]
    have e1 : ((u : Int) % 256) = u := by omega
    go_enter Tryd.func65, Tryd.ntmps65
    go_wp2
    refine bodyPost_nm ?_
    intro W hW
    go_ret
    exact ⟨_, rfl, own_lit rfl (by omega) hW, by rw [hW]; exact (Up.refl w).alloc _⟩
  | succ f ih =>
    intro u w hu hf hu2
    rw [Enc.numF]
    by_cases h128 : u < 128
    · rw [if_pos h128]
      have e1 : ((u : Int) % 256) = u := by omega
      go_enter Tryd.func65, Tryd.ntmps65
      go_wp2
      refine bodyPost_nm ?_
      intro W hW
      go_ret
      exact ⟨_, rfl, own_lit rfl (by omega) hW, by rw [hW]; exact (Up.refl w).alloc _⟩
    · rw [if_neg h128]
      have IH := Lib.hid fun w => ih (u / 128) w (by rw [Nat.pow_succ] at hu; omega) (by omega) (by omega)
      go_enter Tryd.func65, Tryd.ntmps65
      go_wp2_with fail
      refine calls_nm ?_
      intro W hW
      obtain ⟨b, hb⟩ : ∃ b, b = w.heap.size := ⟨_, rfl⟩
      have hlit : Own W b (.slice (some ⟨b, 0, none⟩) 1 1) [UInt8.ofNat (u % 128 + 128)] := by rw [hb]; exact own_lit (z := (u : Int) % 128 + 128) (by omega) (by omega) hW
      have U1 : Hid (Up w W) := by show Up w W; rw [hW]; exact (Up.refl w).alloc _
      rw [← hb]
      clear hW
      refine (IH.out W).mono ?_
      rintro e w2 ⟨v2, rfl, ho2, u2⟩
      obtain ⟨p2, c2, rfl, g1, g2, g3⟩ := ho2.form
      have HL : Hid (Own w2 b (.slice (some ⟨b, 0, none⟩) 1 1) [UInt8.ofNat (u % 128 + 128)]) := hlit.up u2
      have U2 : Hid (Up w w2) := Up.trans U1.out u2
      have hlen := Enc.numF_length (f + 1) (u / 128)
      have G3 := Lib.hid g3
      have HB := Lib.hid hb
      have HSZ : Hid (b ≤ w2.heap.size) := by show b ≤ _; rw [hb]; exact U2.out.size
      obtain ⟨m2, hm2⟩ : ∃ m, m = (Enc.numF (f + 1) (u / 128)).length := ⟨_, rfl⟩
      rw [← hm2] at g1 hlen
      rw [← hm2]
      have HM := Lib.hid hm2
      clear hlit u2 ho2 g3 hb hm2
      go_wp2_with (at_builtin; refine wpList_app rfl (.tmp 12) (.tmp 15) rfl rfl b _ _ _ _ _ (Enc.numF (f + 1) (u / 128)) rfl rfl HM.out HL.out G3.out (by rw [← HM.out]; simp; omega) HSZ.out ?_; intro v3 w3 ho3 hb3; have O3 := Lib.hid ho3; have B3 : Hid (Below b w2 w3) := hb3; clear ho3 hb3)
      go_ret
      refine ⟨_, rfl, ?_, ?_⟩
      · rw [← HB.out]; simpa using O3.out
      · show Below w.heap.size w w3
        have B := B3.out
        rw [HB.out] at B
        exact Below.trans U2.out B

theorem rc_numeral (u : Nat) (w : World) (hu : u < 18446744073709551616) :
    Calls Tryd.prog 65 #[.int .u64 (u : Nat)] w fun e w' => ∃ v', e = .returned v' ∧ Own w' w.heap.size v' (Enc.num u) ∧ Up w w' :=
  rc_numF 9 u w (Nat.lt_trans hu (by decide)) (by omega) hu

end Go.Proofs.YtmifpokafaiebaaDoor
