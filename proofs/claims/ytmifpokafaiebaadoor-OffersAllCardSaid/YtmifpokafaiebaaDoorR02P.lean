/- THE WALK OF acequiaref02.padded. -/
import Derived.Test.YtmifpokafaiebaaDoorOwn
import Derived.Test.YtmifpokafaiebaaDoorR02
namespace Go.Proofs.YtmifpokafaiebaaDoor
open Go.RowKit
set_option linter.unusedVariables false
set_option maxRecDepth 100000

set_option maxRecDepth 100000 in
set_option maxHeartbeats 1000000 in
theorem rpadded_calls (p : Option Addr) (cap : Nat) (l : List UInt8) (w : World) (hcap : l.length ≤ cap) (hm : cap ≤ maxLen) (hl : l.length ≤ 2147483648) (hb : SB w p l) :
    Calls Tryd.prog 67 #[.slice p l.length cap] w fun e w' => ∃ v, e = .returned v ∧ Own w' w.heap.size v (Sha.padded l) ∧ Up w w' := by
  unfold maxLen at hm
  have HB := Lib.hid hb
  clear hb
  obtain ⟨n, hn⟩ : ∃ n, n = l.length := ⟨_, rfl⟩
  rw [← hn] at hcap hl
  rw [← hn]
  have HN := Lib.hid hn
  clear hn
  go_enter Tryd.func67, Tryd.ntmps67
  obtain ⟨W1, hW1⟩ : ∃ W1, W1 = w.alloc (.cells #[] 5 (0, 0)) := ⟨_, rfl⟩
  have o1 : Own W1 w.heap.size (.slice (some ⟨w.heap.size, 0, none⟩) 0 0) [] := by rw [hW1]; exact Own.empty w
  have u1 : Up w W1 := by rw [hW1]; exact (Up.refl w).alloc _
  have b1 : SB W1 p l := HB.out.kept fun b hb => u1.block b hb
  have O1 := Lib.hid o1
  have U1 := Lib.hid u1
  have B1 := Lib.hid b1
  have HW1 := Lib.hid hW1
  clear o1 u1 b1 hW1
  go_wp2_with (first | (at_builtin; rw [← HW1.out]; refine wpList_app rfl (.tmp 6) (.tmp 7) rfl rfl _ _ _ _ _ _ l rfl rfl HN.out O1.out B1.out (by have := HN.out; simp; omega) U1.out.size ?_; intro v2 W2 o2 b2; have O2 := Lib.hid o2; have B2 := Lib.hid b2; clear o2 b2) | (at_builtin; refine wpList_app1 rfl (.tmp 8) (.tmp 9) rfl rfl _ _ _ _ 128 rfl rfl rfl (by omega) O2.out (by have := HN.out; simp; omega) (Nat.le_trans U1.out.size B2.out.size) ?_; intro v3 W3 o3 b3 _; have O3 := Lib.hid o3; have B3 := Lib.hid b3; clear o3 b3))
  have o3 : Own W3 w.heap.size v3 (l ++ 128 :: List.replicate 0 0) := by simpa using O3.out
  have u3 : Up w W3 := Below.trans U1.out (Below.trans B2.out B3.out)
  obtain ⟨p3, c3, rfl, hc31, hc32, _⟩ := o3.form
  have e3 : (l ++ (128 : UInt8) :: List.replicate 0 0).length = n + 1 := by rw [HN.out]; simp
  rw [e3] at o3 hc31
  rw [e3]
  have hS : Hid (∃ k, k ≤ Sha.gap n ∧ n + 1 = n + 1 + k ∧ Own W3 w.heap.size (.slice p3 (n + 1) c3) (l ++ 128 :: List.replicate k 0)) := ⟨0, Nat.zero_le _, rfl, o3⟩
  have U3 := Lib.hid u3
  clear o3 u3 e3 O3 B3 O2 B2 O1 U1 B1 HW1
  unfold maxLen at hc32
  go_loopw [3] (fun v wq => ∃ (m c : Nat) (p' : Option Addr), v = .slice p' m c ∧ n + 1 ≤ m ∧ m ≤ c ∧ c ≤ 2 ^ 63 - 1 ∧ Hid (∃ k, k ≤ Sha.gap n ∧ m = n + 1 + k ∧ Own wq w.heap.size (.slice p' m c) (l ++ 128 :: List.replicate k 0)) ∧ Hid (Up w wq))
    (fun v _ => n + 1 + Sha.gap n - lenOf v)
  case atStart => exact ⟨_, _, _, rfl, Nat.le_refl _, hc31, hc32, hS, U3⟩
  case round =>
    obtain ⟨m, c, p', rfl, hm0, hmc, hcm, HK, HU⟩ := hrel
    have hgap : Sha.gap n ≤ 63 ∧ (n + 1 + Sha.gap n) % 64 = 56 ∧ ∀ k, k < Sha.gap n → (n + 1 + k) % 64 ≠ 56 := by
      unfold Sha.gap
      split <;> exact ⟨by omega, by omega, fun k hk => by omega⟩
    have hmb : m ≤ n + 64 := by obtain ⟨k, h1, h2, _⟩ := HK.out; omega
    by_cases h56 : m % 64 = 56
    · have hbne : (((m : Int) % 64) != 56) = false := by rw [bne_eq_false_iff_eq]; omega
      have hO : Hid (Own wr w.heap.size (.slice p' m c) (l ++ 128 :: List.replicate (Sha.gap n) 0)) := by
        obtain ⟨k, h1, h2, h3⟩ := HK.out
        have : k = Sha.gap n := by
          rcases Nat.lt_or_ge k (Sha.gap n) with h | h
          · exact absurd (h2 ▸ h56) (hgap.2.2 k h)
          · omega
        subst this
        exact h3
      clear hgap HK h56
      go_wp2
      obtain ⟨N, hN⟩ : ∃ N, N = n * 8 := ⟨_, rfl⟩
      have HNN := Lib.hid hN
      have hNb : N < 2 ^ 64 := by omega
      rw [show ((n : Int) * 8) = ((N : Nat) : Int) by omega]
      clear hN
      have hP : Hid ((l ++ 128 :: List.replicate (Sha.gap n) 0) ++ Sha.be 8 N = Sha.padded l) := by
        show _ = _
        rw [Sha.padded, ← HN.out, HNN.out]; simp
      obtain ⟨L0, hL0⟩ : ∃ L0, L0 = l ++ 128 :: List.replicate (Sha.gap n) 0 := ⟨_, rfl⟩
      have hLb : L0.length ≤ 2147483800 := by
        rw [hL0]; simp [← HN.out]; have : Sha.gap n ≤ 63 := by unfold Sha.gap; split <;> omega
        omega
      rw [← hL0] at hO hP
      have HLB := Lib.hid hLb
      clear hL0 hLb
      go_loopw [3, 5] (fun v vi wq => ∃ (i : Int), vi = .int .i64 i ∧ -1 ≤ i ∧ i ≤ 7 ∧ Hid (∃ L, Own wq w.heap.size v L ∧ L ++ Sha.be (i + 1).toNat N = Sha.padded l ∧ L.length + (i + 1).toNat ≤ 2147483900) ∧ Hid (Up w wq))
        (fun _ vi _ => (intOf vi + 1).toNat)
      case atStart => exact ⟨7, rfl, by omega, by omega, ⟨L0, hO.out, hP.out, by have := HLB.out; omega⟩, HU⟩
      case round =>
        obtain ⟨i, rfl, hi1, hi2, HO, HU1⟩ := hrel
        obtain ⟨L, hL1, hL2, hL3⟩ := HO.out
        by_cases h0 : 0 ≤ i
        · obtain ⟨k, rfl⟩ := Int.eq_ofNat_of_zero_le h0
          have hbyte : ((N : Int) / 2 ^ (8 * k) % 256) = ((N / 256 ^ k % 256 : Nat) : Int) := by
            have h : (2 : Int) ^ (8 * k) = ((256 ^ k : Nat) : Int) := by
              rw [show 256 = 2 ^ 8 from rfl, ← Nat.pow_mul]; norm_cast
            rw [h]; norm_cast
          have O := Lib.hid hL1
          have HB := Lib.hid hbyte
          have HL2 := Lib.hid hL2
          have HL3 := Lib.hid hL3
          have e3 : IntKind.i64.wrap (8 * (k : Int)) = 8 * (k : Int) := IntWalk.i64_in _ (by omega)
          clear hL1 hbyte hL2 hL3 HO hi1 h0
          go_wp2_with (at_builtin; refine wpList_app1 rfl (.tmp 26) (.tmp 32) rfl rfl _ _ _ _ (N / 256 ^ k % 256) rfl rfl HB.out (Nat.mod_lt _ (by omega)) O.out (by have := HL3.out; omega) HU1.out.size ?_; intro v3 W3 o3 b3 _; have O3 := Lib.hid o3; have B3 := Lib.hid b3; clear o3 b3)
          refine ⟨⟨(k : Int) - 1, rfl, by omega, by omega, ⟨_, O3.out, ?_, ?_⟩, Below.trans HU1.out B3.out⟩, by simp [intOf]⟩
          · have := HL2.out
            rw [show ((k : Int) + 1).toNat = k + 1 by omega, be_cons] at this
            rw [show ((k : Int) - 1 + 1).toNat = k by omega, ← this]
            simp
          · have := HL3.out
            simp
            omega
        · have : i = -1 := by omega
          subst this
          have hL4 : L = Sha.padded l := by simpa [Sha.be] using hL2
          rw [hL4] at hL1
          have O := Lib.hid hL1
          clear hL1 hL2 hL3 hL4 HO
          go_wp2
          go_ret
          exact ⟨_, rfl, O.out, HU1.out⟩
    · have hbne : (((m : Int) % 64) != 56) = true := by rw [bne_iff_ne]; omega
      obtain ⟨k, hk1, hk2, hk3⟩ := HK.out
      have hk4 : Hid (k < Sha.gap n) := by
        show _ < _
        rcases Nat.lt_or_ge k (Sha.gap n) with h | h
        · exact h
        · have : k = Sha.gap n := by omega
          subst this
          exact absurd (hk2 ▸ hgap.2.1) h56
      have HK2 := Lib.hid hk2
      have O := Lib.hid hk3
      clear hgap HK h56 hk1 hk2 hk3
      go_wp2_with (at_builtin; refine wpList_app1 rfl (.tmp 15) (.tmp 16) rfl rfl _ _ _ _ 0 rfl rfl rfl (by omega) O.out (by have := HN.out; have := HK2.out; simp; omega) HU.out.size ?_; intro v3 W3 o3 b3 _; have O3 := Lib.hid o3; have B3 := Lib.hid b3; clear o3 b3)
      have o3 := O3.out
      have e3 : (l ++ (128 : UInt8) :: List.replicate k 0 ++ [UInt8.ofNat 0]) = l ++ 128 :: List.replicate (k + 1) 0 := by
        rw [List.append_assoc, List.cons_append, List.replicate_succ']; rfl
      rw [e3] at o3
      obtain ⟨p4, c4, rfl, h1, h2, _⟩ := o3.form
      have e4 : (l ++ (128 : UInt8) :: List.replicate (k + 1) 0).length = m + 1 := by rw [HK2.out, HN.out]; simp; omega
      rw [e4] at o3 h1
      rw [e4]
      unfold maxLen at h2
      exact ⟨⟨m + 1, c4, p4, rfl, by omega, h1, h2, ⟨k + 1, hk4.out, by rw [HK2.out]; omega, o3⟩, Below.trans HU.out B3.out⟩, by simp only [lenOf]; have := HK2.out; have := hk4.out; omega⟩

end Go.Proofs.YtmifpokafaiebaaDoor
