/- THE WALK OF acequiaref10.Hash. -/
import Derived.Test.YthjglkpkeffmpaaDoorR02T
import Derived.Test.YthjglkpkeffmpaaDoorHash
namespace Go.Proofs.YthjglkpkeffmpaaDoor
open Go.RowKit
set_option linter.unusedVariables false

set_option maxRecDepth 100000 in
set_option maxHeartbeats 1000000 in
theorem rhash_calls (s : ByteArray) (p : Option Addr) (cap : Nat) (l : List UInt8) (w : World) (hs : s.size ≤ 200) (hl : l.length ≤ 1073741824) (hcap : l.length ≤ cap) (hm : cap ≤ maxLen) (hb : SB w p l) :
    Calls Tryd.prog 27 #[.string s, .slice p l.length cap] w fun e w' => e = .returned (.int .i64 (hn (Sha.tagged s.data.toList l) : Nat)) ∧ Up w w' := by
  obtain ⟨D, hD⟩ : ∃ D, D = Sha.tagged s.data.toList l := ⟨_, rfl⟩
  have hDl : D.length = 32 := by rw [hD, Sha.tagged_length]
  have hT := rtagged_calls s p cap l w hs hl hcap hm hb
  rw [← hD] at hT
  rw [← hD]
  have HDL := Lib.hid hDl
  obtain ⟨E, hE⟩ : ∃ E, E = (u8s D).toArray := ⟨_, rfl⟩
  rw [← hE] at hT
  have hEs : E.size = 32 := by rw [hE, List.size_toArray, u8s_length, hDl]
  have hEc : E.all (·.oneCell') = true := by rw [hE]; exact u8s_all _
  have HE := Lib.hid hE
  have HEs := Lib.hid hEs
  have HEc := Lib.hid hEc
  have HT := Lib.hid hT
  clear hD hDl hT hE hEs hEc hs hl hcap hm hb
  go_enter Tryd.func27, Tryd.ntmps27
  go_wp2_with fail
  refine HT.out.mono ?_
  rintro e w1 ⟨rfl, u1⟩
  have HU1 := Lib.hid u1
  clear u1
  have HF : Hid (∀ k, k ≤ 8 → hz D k < 9223372036854775808) := fun k hk => hz_lt63 D k hk
  obtain ⟨bd, hbd⟩ : ∃ bd, bd = w1.heap.size := ⟨_, rfl⟩
  have HBD := Lib.hid hbd
  clear hbd
  have K0 : ∀ (W : World), W.heap[bd]? = some (.cells E 65 (0, 0)) → W.cell? ⟨bd, 0, none⟩ = some (.int .u8 ((D.getD 0 0).toNat : Nat)) := fun W hW => cell_u8s (t := 65) (by rw [hW, HE.out]) (by rw [HDL.out]; omega)
  have hb0 := (D.getD 0 0).toNat_lt
  have HZ1 : Hid (hz D 1 = (D.getD 0 0).toNat % 128) := by show _ = _; rw [hz, hz, if_pos rfl]; omega
  have HK0 := Lib.hid K0
  clear K0
  generalize (D.getD 0 0).toNat = b0 at *
  go_wp2_with (refine wpList_named ?_; intro WA hWA; refine wpList_store_rowTo rfl 65 (.tmp 5) (.tmp 10) rfl rfl _ E rfl rfl 65 _ (by rw [hWA]; exact heap_new rfl) (by rw [HEs.out]; rfl) (by rw [HEs.out]; rfl) HEc.out ?_; refine wpList_named ?_; intro W4 hW4; have U4 : Hid (Up w1 W4) := (by show Up w1 W4; rw [hW4, hWA]; exact below_setRow ((Up.refl w1).alloc _) (Nat.le_refl _) _); have E4 : Hid (W4.heap[bd]? = some (.cells E 65 (0, 0))) := (by show _ = _; rw [hW4, HBD.out, setRow_heap _ _ _ _ 65 (0, 0) (by rw [hWA]; exact heap_new rfl)]); have k0 := HK0.out W4 E4.out; rw [← HBD.out]; clear hWA hW4)
  go_loopw [6, 7] (fun v vi wq => wq = W4 ∧ ∃ k : Nat, 1 ≤ k ∧ k ≤ 8 ∧ vi = .int .i64 k ∧ v = .int .i64 (hz D k : Nat))
    (fun _ vi _ => 8 - (intOf vi).toNat)
  case atStart => exact ⟨rfl, 1, by omega, by omega, rfl, by rw [HZ1.out]; go_num⟩
  case round =>
    obtain ⟨rfl, k, hk1, hk2, rfl, rfl⟩ := hrel
    by_cases hlt : k < 8
    · have ck : wr.cell? ⟨bd, k, none⟩ = some (.int .u8 ((D.getD k 0).toNat : Nat)) := cell_u8s (t := 65) (by rw [E4.out, HE.out]) (by rw [HDL.out]; omega)
      have hstep : Hid (hz D (k + 1) = hz D k * 256 + (D.getD k 0).toNat) := by show _ = _; rw [hz, if_neg (by omega)]
      have hb := (D.getD k 0).toNat_lt
      have h1 := HF.out (k + 1) (by omega)
      rw [hstep.out] at h1
      generalize (D.getD k 0).toNat = b at *
      obtain ⟨z, hz'⟩ : ∃ z, z = hz D k := ⟨_, rfl⟩
      rw [← hz'] at h1 hstep
      rw [← hz']
      clear hz'
      go_wp2_with fail
      exact ⟨⟨trivial, k + 1, by omega, by omega, by go_num, by rw [hstep.out]; go_num⟩, by simp [intOf]; omega⟩
    · have hk8 : k = 8 := by omega
      subst hk8
      have h1 := HF.out 8 (by omega)
      have hfin : Hid (hn D = hz D 8 % 1073741789) := rfl
      obtain ⟨z, hz'⟩ : ∃ z, z = hz D 8 := ⟨_, rfl⟩
      rw [← hz'] at h1 hfin
      rw [← hz']
      clear hz'
      go_wp2_with fail
      go_ret
      exact ⟨by rw [hfin.out]; rfl, Up.trans HU1.out U4.out⟩

end Go.Proofs.YthjglkpkeffmpaaDoor
