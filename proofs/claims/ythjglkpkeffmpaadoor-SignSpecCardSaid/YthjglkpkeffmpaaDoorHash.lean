/- THE WALK OF group.Hash. -/
import Derived.Test.YthjglkpkeffmpaaDoorTag
namespace Go.Proofs.YthjglkpkeffmpaaDoor
open Go.RowKit
set_option linter.unusedVariables false

/-- the number of the first k bytes, the first without its highest bit -/
def hz (D : List UInt8) : Nat → Nat
  | 0 => 0
  | k + 1 => hz D k * 256 + (if k = 0 then (D.getD k 0).toNat % 128 else (D.getD k 0).toNat)

theorem hz_lt (D : List UInt8) : ∀ k, hz D (k + 1) < 128 * 256 ^ k
  | 0 => by rw [hz, hz, if_pos rfl]; omega
  | k + 1 => by
    have h := hz_lt D k
    have hb := (D.getD (k + 1) 0).toNat_lt
    rw [hz, if_neg (by omega), Nat.pow_succ]
    generalize 256 ^ k = X at *
    omega
theorem hz_lt63 (D : List UInt8) (k : Nat) (hk : k ≤ 8) : hz D k < 9223372036854775808 := by
  cases k with
  | zero => rw [hz]; omega
  | succ k =>
    have h := hz_lt D k
    have : 256 ^ k ≤ 256 ^ 7 := Nat.pow_le_pow_right (by omega) (by omega)
    omega

theorem cell_u8s {w : World} {b : Nat} {l : List UInt8} {t : TypeId} (h : w.heap[b]? = some (.cells (u8s l).toArray t (0, 0))) {i : Nat} (hi : i < l.length) : w.cell? ⟨b, i, none⟩ = some (.int .u8 ((l.getD i 0).toNat : Nat)) := by
  rw [cell_of_row w b i _ t _ h, List.getElem?_toArray]
  simp [u8s, hi]

set_option maxRecDepth 100000 in
theorem i64_or8 (h b : Nat) (hh : h * 256 + b < 9223372036854775808) (hb : b < 256) : bits BinOp.or IntKind.i64 ((h : Int) * 256) (b : Int) = ((h * 256 + b : Nat) : Int) := by
  have e : ((h : Int) * 256) = ((h * 256 : Nat) : Int) := (Int.natCast_mul h 256).symm
  have o1 : (BitVec.ofInt 64 ((h * 256 : Nat) : Int)).toNat = h * 256 := by
    rw [BitVec.ofInt_natCast, BitVec.toNat_ofNat]; exact Nat.mod_eq_of_lt (by omega)
  have o2 : (BitVec.ofInt 64 ((b : Nat) : Int)).toNat = b := by
    rw [BitVec.ofInt_natCast, BitVec.toNat_ofNat]; exact Nat.mod_eq_of_lt (by omega)
  rw [e]
  show IntKind.i64.wrap ((BitVec.ofInt 64 ((h * 256 : Nat) : Int) ||| BitVec.ofInt 64 ((b : Nat) : Int)).toNat : Int) = _
  rw [BitVec.toNat_or, o1, o2, nat_join 8 (h * 256) b (by omega) (by omega)]
  exact IntWalk.i64_in _ (by omega)

def hn (D : List UInt8) : Nat := hz D 8 % 1073741789

set_option maxRecDepth 100000 in
set_option maxHeartbeats 1000000 in
theorem hash_calls (s : ByteArray) (p : Option Addr) (cap : Nat) (l : List UInt8) (w : World) (hs : s.size ≤ 200) (hl : l.length ≤ 2000) (hcap : l.length ≤ cap) (hm : cap ≤ maxLen) (hb : SB w p l) (ht0 : Tab0 w) (ht1 : Tab w) :
    Calls Tryd.prog 16 #[.string s, .slice p l.length cap] w fun e w' => e = .returned (.int .i64 (hn (Sha.tagged s.data.toList l) : Nat)) ∧ Up w w' := by
  obtain ⟨D, hD⟩ : ∃ D, D = Sha.tagged s.data.toList l := ⟨_, rfl⟩
  have hDl : D.length = 32 := by rw [hD, Sha.tagged_length]
  have hT := tagged_calls s p cap l
  rw [← hD] at hT
  rw [← hD]
  have HDL := Lib.hid hDl
  obtain ⟨E, hE⟩ : ∃ E, E = (u8s D).toArray := ⟨_, rfl⟩
  rw [← hE] at hT
  have hEs : E.size = 32 := by rw [hE, List.size_toArray, u8s_length, hDl]
  have hEc : E.all (·.oneCell') = true := by
    rw [hE, Array.all_eq_true_iff_forall_mem]
    intro v hv
    exact u8s_one _ v (by simpa using hv)
  have HE := Lib.hid hE
  have HEs := Lib.hid hEs
  have HEc := Lib.hid hEc
  have HT := Lib.hid hT
  clear hD hDl hT hE hEs hEc
  go_enter Tryd.func16, Tryd.ntmps16
  go_wp2_with fail
  refine (HT.out _ hs hl hcap hm hb ht0 ht1).mono ?_
  rintro e w1 ⟨rfl, u1⟩
  obtain ⟨bd, hbd⟩ : ∃ bd, bd = w1.heap.size := ⟨_, rfl⟩
  have HBD := Lib.hid hbd
  go_wp2_with (refine wpList_store_row rfl 65 (.tmp 5) (.tmp 9) rfl _ E rfl rfl 65 _ (heap_new rfl) (by rw [HEs.out]; rfl) (by rw [HEs.out]; rfl) HEc.out ?_; refine wpList_named ?_; intro W2 hW2; rw [← hbd]; have h2 : W2.heap[bd]? = some (.cells (u8s D).toArray 65 (0, 0)) := (by rw [hW2, hbd, ← HE.out]; exact setRow_heap _ _ _ _ _ _ (heap_new rfl)); have u2 : Up w1 W2 := (by rw [hW2]; exact below_setRow ((Up.refl w1).alloc _) (Nat.le_refl _) _); clear hW2 hbd; have c0 := cell_u8s h2 (i := 0) (by rw [HDL.out]; omega); have f0 := free_row h2 0; have H2 := Lib.hid h2; clear h2)
  have hb0 := (D.getD 0 0).toNat_lt
  have hand : bits BinOp.and IntKind.u8 (((D[0]?.getD 0).toNat : Nat) : Int) 127 = (((D.getD 0 0).toNat % 128 : Nat) : Int) := by
    have h := u8_and_nat (D.getD 0 0).toNat 127 hb0 (by decide)
    rw [Nat.and_two_pow_sub_one_eq_mod _ 7] at h
    rw [List.getD_eq_getElem?_getD] at h ⊢
    exact h
  rw [hand]
  refine wp_named ?_
  intro W3 hW3
  have u3 : Up w1 W3 := by rw [hW3]; exact ⟨u2.os, u2.tape, u2.output, by simpa [World.setCell] using u2.size, fun k hk => (heap_setCell_other _ _ _ _ (by show k ≠ bd; have := HBD.out; omega)).trans (u2.block k hk)⟩
  have cells : Hid (∀ k, k < 8 → W3.cell? ⟨bd, k, none⟩ = some (.int .u8 ((if k = 0 then (D.getD k 0).toNat % 128 else (D.getD k 0).toNat : Nat) : Int))) := by
    intro k hk
    have h3 := heap_setCell_same W2 bd 0 _ _ (.int .u8 ((D.getD 0 0).toNat % 128 : Nat)) H2.out
    rw [← hW3] at h3
    rw [cell_of_row W3 bd k _ _ _ h3]
    by_cases h0 : k = 0
    · subst h0
      rw [if_pos rfl]; simp [u8s, HDL.out]
    · rw [if_neg h0]
      have : ¬ 0 = k := fun e => h0 e.symm
      have hk2 : k < D.length := by rw [HDL.out]; omega
      simp [u8s, this, hk2]
  have HU3 : Hid (Up w W3) := Up.trans u1 u3
  clear hand hW3 u3 u2 u1 H2 c0 f0 hb0
  go_loopw [4, 6, 14] (fun n _ i wq => wq = W3 ∧ ∃ k : Nat, k ≤ 8 ∧ i = .int .i64 k ∧ n = .int .i64 (hz D k : Nat))
    (fun _ _ i _ => 8 - (intOf i).toNat)
  case atStart => exact ⟨rfl, 0, by omega, rfl, rfl⟩
  case round =>
    obtain ⟨rfl, k, hk, rfl, rfl⟩ := hrel
    by_cases hlt : k < 8
    · have ck := cells.out k hlt
      have hz1 := hz_lt63 D (k + 1) (by omega)
      have hs : Hid (hz D (k + 1) = hz D k * 256 + (if k = 0 then (D.getD k 0).toNat % 128 else (D.getD k 0).toNat)) := rfl
      have hbk : (if k = 0 then (D.getD k 0).toNat % 128 else (D.getD k 0).toNat) < 256 := by have := (D.getD k 0).toNat_lt; split <;> omega
      rw [hs.out] at hz1
      generalize (if k = 0 then (D.getD k 0).toNat % 128 else (D.getD k 0).toNat) = b at *
      obtain ⟨h, hh⟩ : ∃ h, Hid (h = hz D k) := ⟨_, rfl⟩
      rw [← hh.out] at hz1
      rw [← hh.out]
      go_wp2_with fail
      rw [i64_or8 h b hz1 hbk]
      exact ⟨⟨trivial, k + 1, by omega, by go_num, by rw [hs.out, ← hh.out]⟩, by simp [intOf]; omega⟩
    · have hk8 : k = 8 := by omega
      subst hk8
      have hz1 := hz_lt63 D 8 (by omega)
      have hfin : Hid (hn D = hz D 8 % 1073741789) := rfl
      generalize hz D 8 = h at *
      go_wp2_with fail
      go_ret
      refine ⟨?_, HU3.out⟩
      rw [hfin.out, show ((h % 1073741789 : Nat) : Int) = (h : Int) % 1073741789 from Int.natCast_emod h 1073741789]
      rfl

end Go.Proofs.YthjglkpkeffmpaaDoor
