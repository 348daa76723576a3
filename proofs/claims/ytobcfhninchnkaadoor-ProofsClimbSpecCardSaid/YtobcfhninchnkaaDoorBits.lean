/- math/bits.Len, Len64 (small numbers). -/
import Derived.Test.YtobcfhninchnkaaDoorArr
namespace Go.Proofs.YtobcfhninchnkaaDoor
open Go.RowKit
set_option linter.unusedVariables false
set_option maxRecDepth 100000

/-- how many bits a number has -/
def bl (x : Nat) : Nat := if x = 0 then 0 else Nat.log2 x + 1

def lenTab : ByteArray := ⟨⟨(List.range 256).map fun i => UInt8.ofNat (bl i)⟩⟩
theorem bl_small {x : Nat} (hx : x < 256) : bl x ≤ 8 := by
  unfold bl
  split
  · omega
  · have := (Nat.log2_lt (n := x) (k := 8) (by omega)).2 (by omega); omega
theorem len_key (x : Nat) (hx : x < 256) : ∀ T : ByteArray, T = lenTab → ∀ p : x < T.size, wrap64 (wrap64 (((T[x]'p).toNat : Nat) : Int)) = ((bl x : Nat) : Int) := by
  rintro T rfl p
  have e : (lenTab[x]'p).toNat = bl x := by
    have h : lenTab[x]'p = UInt8.ofNat (bl x) := by
      have h2 : lenTab.data.toList[x]? = some (UInt8.ofNat (bl x)) := by
        show ((List.range 256).map fun i => UInt8.ofNat (bl i))[x]? = _
        simp [hx]
      have h3 : lenTab.data[x]? = some (lenTab[x]'p) := Array.getElem?_eq_getElem p
      rw [Array.getElem?_toList] at h2
      exact Option.some.inj (h3.symm.trans h2)
    rw [h, UInt8.toNat_ofNat']
    have := bl_small hx
    omega
  rw [e]
  have := bl_small hx
  have h1 : wrap64 ((bl x : Nat) : Int) = ((bl x : Nat) : Int) := IntWalk.wrap64_in _ ⟨by omega, by omega⟩
  rw [h1, h1]

set_option maxHeartbeats 1000000 in
theorem len64_small (x : Nat) (hx : x < 256) (w : World) : Calls Tryd.prog 37 #[.int .u64 x] w fun e w' => e = .returned (.int .i64 (bl x : Nat)) ∧ w' = w := by
  have d1 : decide ((4294967296 : Int) ≤ (x : Int)) = false := by simp; omega
  have d2 : decide ((65536 : Int) ≤ (x : Int)) = false := by simp; omega
  have d3 : decide ((256 : Int) ≤ (x : Int)) = false := by simp; omega
  go_enter Tryd.func37, Tryd.ntmps37
  go_wp2
  go_ret
  refine ⟨?_, rfl⟩
  exact congrArg Ending.returned (congrArg (Value.int IntKind.i64) (len_key x hx _ (by kernel_rfl) _))

theorem len_key2 (x : Nat) (hx : x < 256) : ∀ T : ByteArray, T = lenTab → ∀ p : x < T.size, wrap64 (8 + wrap64 (((T[x]'p).toNat : Nat) : Int)) = ((bl x + 8 : Nat) : Int) := by
  intro T hT p
  have h := len_key x hx T hT p
  have hb := bl_small hx
  have ht : (((T[x]'p).toNat : Nat) : Int) ≤ 255 := by have := (T[x]'p).toNat_lt; omega
  obtain ⟨z, hz⟩ : ∃ z : Int, z = (((T[x]'p).toNat : Nat) : Int) := ⟨_, rfl⟩
  have hz0 : 0 ≤ z := by omega
  rw [← hz] at h ht ⊢
  have e1 : wrap64 z = z := IntWalk.wrap64_in z ⟨by omega, by omega⟩
  rw [e1, e1] at h
  rw [e1, IntWalk.wrap64_in (8 + z) ⟨by omega, by omega⟩]
  omega
theorem bl_half {x : Nat} (h : 2 ≤ x) : bl x = bl (x / 2) + 1 := by
  unfold bl
  rw [if_neg (by omega), if_neg (by omega), Nat.log2_def x, if_pos h]
theorem bl_mid {x : Nat} (h : 256 ≤ x) : bl x = bl (x / 256) + 8 := by
  rw [bl_half (x := x) (by omega), bl_half (x := x / 2) (by omega), bl_half (x := x / 2 / 2) (by omega), bl_half (x := x / 2 / 2 / 2) (by omega), bl_half (x := x / 2 / 2 / 2 / 2) (by omega), bl_half (x := x / 2 / 2 / 2 / 2 / 2) (by omega), bl_half (x := x / 2 / 2 / 2 / 2 / 2 / 2) (by omega), bl_half (x := x / 2 / 2 / 2 / 2 / 2 / 2 / 2) (by omega)]
  have : x / 2 / 2 / 2 / 2 / 2 / 2 / 2 / 2 = x / 256 := by omega
  rw [this]

set_option maxHeartbeats 1000000 in
theorem len64_mid (x : Nat) (h8 : 256 ≤ x) (hx : x < 65536) (w : World) : Calls Tryd.prog 37 #[.int .u64 x] w fun e w' => e = .returned (.int .i64 (bl x : Nat)) ∧ w' = w := by
  have d1 : decide ((4294967296 : Int) ≤ (x : Int)) = false := by simp; omega
  have d2 : decide ((65536 : Int) ≤ (x : Int)) = false := by simp; omega
  have d3 : decide ((256 : Int) ≤ (x : Int)) = true := by simp; omega
  go_enter Tryd.func37, Tryd.ntmps37
  go_wp2
  go_ret
  exact ⟨congrArg Ending.returned (congrArg (Value.int IntKind.i64) (by rw [bl_mid h8]; exact len_key2 (x / 256) (by omega) _ (by kernel_rfl) _)), rfl⟩

/-- Len of a number below 65536 -/
theorem len_calls (x : Nat) (hx : x < 65536) (w : World) : Calls Tryd.prog 16 #[.int .u64 x] w fun e w' => e = .returned (.int .i64 (bl x : Nat)) ∧ w' = w := by
  have H : Hid (∀ w, Calls Tryd.prog 37 #[.int .u64 x] w fun e w' => e = .returned (.int .i64 (bl x : Nat)) ∧ w' = w) := fun w => by
    rcases Nat.lt_or_ge x 256 with h | h
    · exact len64_small x h w
    · exact len64_mid x h hx w
  obtain ⟨b, hb⟩ : ∃ b, b = bl x := ⟨_, rfl⟩
  rw [← hb] at H ⊢
  clear hb
  go_enter Tryd.func16, Tryd.ntmps16
  go_wp2_with fail
  refine (H.out w).mono ?_
  rintro e w2 ⟨rfl, rfl⟩
  go_wp2_with fail
  go_ret
  exact ⟨rfl, rfl⟩

/-- how many of n leaves are on the left side -/
def hf (n : Nat) : Nat := 2 ^ Nat.log2 (n - 1)
theorem half_calls (n : Nat) (h2 : 2 ≤ n) (hn : n ≤ 700) (w : World) : Calls Tryd.prog 52 #[.int .i64 n] w fun e w' => e = .returned (.int .i64 (hf n : Nat)) ∧ w' = w := by
  have H := Lib.hid fun w => len_calls (n - 1) (by omega) w
  obtain ⟨j, hj⟩ : ∃ j, j = Nat.log2 (n - 1) := ⟨_, rfl⟩
  have hb : bl (n - 1) = j + 1 := by unfold bl; rw [if_neg (by omega), hj]
  have hj10 : j < 10 := by rw [hj]; exact (Nat.log2_lt (by omega)).2 (by omega)
  rw [hb] at H
  unfold hf
  rw [← hj]
  have e1 : (n : Int) - 1 = ((n - 1 : Nat) : Int) := by omega
  obtain ⟨m, hm⟩ : ∃ m, m = n - 1 := ⟨_, rfl⟩
  rw [← hm] at e1 H
  have hm2 : m < 65536 := by omega
  have e2 : IntKind.i64.wrap ((n : Int) - 1) = (m : Int) := by rw [e1]; exact IntWalk.i64_in _ (by omega)
  clear hb hj hm
  go_enter Tryd.func52, Tryd.ntmps52
  go_wp2_with fail
  refine (H.out w).mono ?_
  rintro e w2 ⟨rfl, rfl⟩
  clear H e1 e2 hm2
  have : j = 0 ∨ j = 1 ∨ j = 2 ∨ j = 3 ∨ j = 4 ∨ j = 5 ∨ j = 6 ∨ j = 7 ∨ j = 8 ∨ j = 9 := by omega
  rcases this with rfl | rfl | rfl | rfl | rfl | rfl | rfl | rfl | rfl | rfl
  all_goals
    go_wp2_with fail
    go_ret
    exact ⟨rfl, rfl⟩

end Go.Proofs.YtobcfhninchnkaaDoor
