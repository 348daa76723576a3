/- THE WALK OF acequialaw10.GroupHash. -/
import Derived.Test.YtkdonlhclfbanaaDoorHash
import Derived.Test.YtkdonlhclfbanaaDoorSaneD
namespace Go.Proofs.YtkdonlhclfbanaaDoor
open Go.RowKit
set_option linter.unusedVariables false

theorem hz_mod (D : List UInt8) (k b : Nat) : (hz D k % 1073741789 * 256 + b) % 1073741789 = (hz D k * 256 + b) % 1073741789 := by omega

set_option maxRecDepth 100000 in
set_option maxHeartbeats 1000000 in
theorem lawHash_calls (s : ByteArray) (p : Option Addr) (cap : Nat) (l : List UInt8) (w : World) (hss : (s.size : Int) ≤ 9223372036854775807) (hcap : l.length ≤ cap) (hm : cap ≤ maxLen) (hb : SB w p l) (ht0 : Tab0 w) (ht1 : Tab w) :
    Calls Tryd.prog 4 #[.string s, .slice p l.length cap] w fun e w' => e = .returned (.bool true) ∧ Up w w' := by
  have HM := Lib.hid hm
  have HB := Lib.hid hb
  have HT0 := Lib.hid ht0
  have HT1 := Lib.hid ht1
  clear hb ht0 ht1 hm
  obtain ⟨D, hD⟩ : ∃ D, D = Sha.tagged s.data.toList l := ⟨_, rfl⟩
  have hDl : D.length = 32 := by rw [hD, Sha.tagged_length]
  have hT := tagged_calls s p cap l
  have hH := hash_calls s p cap l
  rw [← hD] at hT hH
  have HDL := Lib.hid hDl
  obtain ⟨E, hE⟩ : ∃ E, E = (u8s D).toArray := ⟨_, rfl⟩
  rw [← hE] at hT
  have hEs : E.size = 32 := by rw [hE, List.size_toArray, u8s_length, hDl]
  have hEc : E.all (·.oneCell') = true := by
    rw [hE, Array.all_eq_true_iff_forall_mem]
    intro v hv
    exact u8s_one _ v (by simpa using hv)
  have HE := Lib.hid hE
  have HEs := Lib.hid hEs
  have HEc := Lib.hid hEc
  have HT := Lib.hid hT
  have HH := Lib.hid hH
  obtain ⟨n, hn⟩ : ∃ n, n = l.length := ⟨_, rfl⟩
  have HN := Lib.hid hn
  rw [← hn] at hcap
  rw [← hn]
  clear hD hDl hT hE hH hEs hEc hn
  go_enter Tryd.func4, Tryd.ntmps4
  go_wp2_with fail
  refine (sane_calls _).mono ?_
  rintro e w1 ⟨rfl, u1⟩
  have hu1 : Hid (Up w w1) := u1
  clear u1
  by_cases hnn : n ≤ 2000
  · by_cases hs : s.size ≤ 200
    · go_wp2_with fail
      have t01 : Tab0 w1 := HT0.out.kept (hu1.out.block _ HT0.out.lt)
      have t11 : Tab w1 := HT1.out.kept (hu1.out.block _ HT1.out.lt)
      have sb1 : SB w1 p l := HB.out.kept fun b hb => hu1.out.block b hb
      have h1 := HH.out w1 hs (by rw [← HN.out]; exact hnn) (by rw [← HN.out]; exact hcap) HM.out sb1 t01 t11
      rw [← HN.out] at h1
      have H1 := Lib.hid h1
      clear t01 t11 sb1 h1
      refine H1.out.mono ?_
      rintro e w2 ⟨rfl, u2⟩
      have hu2 : Hid (Up w w2) := Up.trans hu1.out u2
      have t02 : Tab0 w2 := HT0.out.kept (hu2.out.block _ HT0.out.lt)
      have t12 : Tab w2 := HT1.out.kept (hu2.out.block _ HT1.out.lt)
      have sb2 : SB w2 p l := HB.out.kept fun b hb => hu2.out.block b hb
      have h2 := HT.out w2 hs (by rw [← HN.out]; exact hnn) (by rw [← HN.out]; exact hcap) HM.out sb2 t02 t12
      rw [← HN.out] at h2
      have H2 := Lib.hid h2
      clear t02 t12 sb2 h2 u2
      obtain ⟨h, hh⟩ : ∃ h, h = hn D := ⟨_, rfl⟩
      rw [← hh]
      have hlt : h < 1073741789 := by rw [hh]; exact Nat.mod_lt _ (by decide)
      have HHE := Lib.hid hh
      clear hh
      go_wp2_with fail
      refine H2.out.mono ?_
      rintro e w3 ⟨rfl, u3⟩
      have hu3 : Hid (Up w w3) := Up.trans hu2.out u3
      clear u3
      obtain ⟨bd, hbd⟩ : ∃ bd, bd = w3.heap.size := ⟨_, rfl⟩
      have HBD := Lib.hid hbd
      go_wp2_with (refine wpList_store_row rfl 30 (.tmp 6) (.tmp 25) rfl _ E rfl rfl 30 _ (heap_new rfl) (by rw [HEs.out]; rfl) (by rw [HEs.out]; rfl) HEc.out ?_; refine wpList_named ?_; intro W2 hW2; rw [← hbd]; have h2 : W2.heap[bd]? = some (.cells (u8s D).toArray 30 (0, 0)) := (by rw [hW2, hbd, ← HE.out]; exact setRow_heap _ _ _ _ _ _ (heap_new rfl)); have u2 : Up w3 W2 := (by rw [hW2]; exact below_setRow ((Up.refl w3).alloc _) (Nat.le_refl _) _); clear hW2 hbd; have HU4 := Lib.hid (Up.trans hu3.out u2); have HC := Lib.hid h2; clear h2 u2)
      go_loopw [7, 8, 9, 26] (fun r _ _ i wq => wq = W2 ∧ ∃ k : Nat, k ≤ 8 ∧ i = .int .i64 k ∧ r = .int .i64 (hz D k % 1073741789 : Nat))
        (fun _ _ _ i _ => 8 - (intOf i).toNat)
      case atStart => exact ⟨rfl, 0, by omega, rfl, rfl⟩
      case round =>
        obtain ⟨rfl, k, hk, rfl, rfl⟩ := hrel
        by_cases hlt8 : k < 8
        · have ck := cell_u8s HC.out (i := k) (by rw [HDL.out]; omega)
          have hz1 := hz_mod D k
          have hs1 : Hid (hz D (k + 1) = hz D k * 256 + (if k = 0 then (D.getD k 0).toNat % 128 else (D.getD k 0).toNat)) := rfl
          have hbk := (D.getD k 0).toNat_lt
          have hm := Nat.mod_lt (hz D k) (show 0 < 1073741789 by decide)
          have HZ1 := Lib.hid hz1
          clear hz1
          generalize (D.getD k 0).toNat = b at *
          obtain ⟨r, hr⟩ : ∃ r, r = hz D k % 1073741789 := ⟨_, rfl⟩
          rw [← hr] at hm
          rw [← hr]
          have HR := Lib.hid hr
          clear hr
          by_cases hk0 : k = 0
          · have hkb : ((k : Int) == 0) = true := by subst hk0; rfl
            have HK := Lib.hid hk0
            clear hk0
            go_wp2_with fail
            exact ⟨⟨trivial, k + 1, by omega, by go_num, by rw [hs1.out, if_pos HK.out, ← HZ1.out, ← HR.out]; go_num⟩, by simp [intOf]; omega⟩
          · have hkb : ((k : Int) == 0) = false := by rw [beq_eq_false_iff_ne]; omega
            have HK := Lib.hid hk0
            clear hk0
            go_wp2_with fail
            exact ⟨⟨trivial, k + 1, by omega, by go_num, by rw [hs1.out, if_neg HK.out, ← HZ1.out, ← HR.out]; go_num⟩, by simp [intOf]; omega⟩
        · have hk8 : k = 8 := by omega
          subst hk8
          have hn1 : Hid (h = hz D 8 % 1073741789) := HHE.out
          rw [← hn1.out]
          have h0 : (0 : Int) ≤ h := by omega
          have h1 : (h : Int) < 1073741789 := by omega
          go_wp2_with fail
          go_ret
          exact ⟨rfl, HU4.out⟩
    · go_wp2_with fail
      go_ret
      exact ⟨rfl, hu1.out⟩
  · go_wp2_with fail
    go_ret
    exact ⟨rfl, hu1.out⟩

end Go.Proofs.YtkdonlhclfbanaaDoor
