/- THE WALKS OF PACKAGE digest, 1: RotateLeft32, rotated, word, put. -/
import Derived.Test.YtmifpokafaiebaaDoorProg
import Derived.Test.YtmifpokafaiebaaDoorSha
import Derived.Test.YtmifpokafaiebaaDoorIter
import Derived.WalkKit
import Derived.WalkSpells
import Derived.WalkLawsBesides
import Derived.Lib.Hide
namespace Go.Proofs.YtmifpokafaiebaaDoor
open Go.RowKit

theorem neg_and31 (k : Nat) (hk : 1 ≤ k) (hk2 : k ≤ 31) : bits BinOp.and IntKind.u64 (IntKind.u64.wrap (-(k : Int))) 31 = ((32 - k : Nat) : Int) := by
  have e : IntKind.u64.wrap (-(k : Int)) = ((18446744073709551616 - k : Nat) : Int) := by
    rw [IntKind.wrap_u64]; omega
  rw [e]
  have := bits_and_u64_nat (18446744073709551616 - k) 31 (by omega) (by omega)
  rw [nat_mask5] at this
  rw [show (31 : Int) = ((31 : Nat) : Int) from rfl, this]
  congr 1; omega

theorem rotl_calls (k x : Nat) (w : World) (hk : 1 ≤ k) (hk2 : k ≤ 31) (hx : x < 4294967296) :
    Calls Tryd.prog 70 #[.int .u32 x, .int .i64 (-(k : Int))] w fun e w' => e = .returned (.int .u32 (Sha.rot k x : Nat)) ∧ w = w' := by
  have hb := neg_and31 k hk hk2
  obtain ⟨s, hs⟩ : ∃ s, 32 - k = s := ⟨_, rfl⟩
  rw [hs] at hb
  have hs1 : 1 ≤ s := by omega
  have hs2 : s ≤ 31 := by omega
  have e : Hid (((Sha.rot k x : Nat) : Int) = bits BinOp.or IntKind.u32 ((x : Int) * 2 ^ s % 4294967296) ((x : Int) / 2 ^ (32 - s))) := by
    have h1 : x * 2 ^ s % 4294967296 < 4294967296 := Nat.mod_lt _ (by omega)
    have h2 : x / 2 ^ k < 4294967296 := Sha.div_lt hx
    have h3 : 32 - s = k := by omega
    rw [h3]
    have := u32_or_nat _ _ h1 h2
    show _ = _
    rw [Sha.rot, hs, ← this]
    simp
  clear hs
  go_enter Tryd.func70, Tryd.ntmps70
  go_wp2
  go_ret
  rw [e.out]
  exact ⟨rfl, rfl⟩

theorem rotated_calls (a b c x : Nat) (w : World) (ha : 1 ≤ a) (ha2 : a ≤ 31) (hb : 1 ≤ b) (hb2 : b ≤ 31) (hc : 1 ≤ c) (hc2 : c ≤ 31) (hx : x < 4294967296) :
    Calls Tryd.prog 71 #[.int .u32 x, .int .i64 a, .int .i64 b, .int .i64 c] w fun e w' => e = .returned (.int .u32 (Sha.rot a x ^^^ Sha.rot b x ^^^ Sha.rot c x : Nat)) ∧ w = w' := by
  have e : Hid (((Sha.rot a x ^^^ Sha.rot b x ^^^ Sha.rot c x : Nat) : Int) = bits BinOp.xor IntKind.u32 (bits BinOp.xor IntKind.u32 (Sha.rot a x : Nat) (Sha.rot b x : Nat)) (Sha.rot c x : Nat)) := by
    have h1 := u32_xor_nat _ _ (Sha.rot_lt (k := a) hx) (Sha.rot_lt (k := b) hx)
    have h2 := u32_xor_nat _ _ (Sha.xor_lt (Sha.rot_lt (k := a) hx) (Sha.rot_lt (k := b) hx)) (Sha.rot_lt (k := c) hx)
    show _ = _
    rw [h1, h2]
  have A := Lib.hid fun w => rotl_calls a x w ha ha2 hx
  have B := Lib.hid fun w => rotl_calls b x w hb hb2 hx
  have C := Lib.hid fun w => rotl_calls c x w hc hc2 hx
  clear hx
  rw [e.out]
  clear e
  generalize Sha.rot a x = u at *
  generalize Sha.rot b x = v at *
  generalize Sha.rot c x = z at *
  go_enter Tryd.func71, Tryd.ntmps71
  go_wp2_with fail
  refine (A.out _).mono ?_
  rintro e w' ⟨rfl, rfl⟩
  go_wp2_with fail
  refine (B.out _).mono ?_
  rintro e w' ⟨rfl, rfl⟩
  go_wp2_with fail
  refine (C.out _).mono ?_
  rintro e w' ⟨rfl, rfl⟩
  go_wp2_with fail
  go_ret
  exact ⟨rfl, rfl⟩

/-! ### bytes in memory -/
/-- From (b, o) on the cells hold these bytes. -/
def Bs (w : World) (b o : Nat) (l : List UInt8) : Prop := ∀ i (h : i < l.length), w.cell? ⟨b, o + i, none⟩ = some (.int .u8 (l[i].toNat : Nat))

theorem Bs.take {w : World} {b o : Nat} {l : List UInt8} (h : Bs w b o l) (n : Nat) : Bs w b o (l.take n) := fun i hi => by
  have : i < l.length := by simp at hi; omega
  simpa using h i this
theorem Bs.drop {w : World} {b o : Nat} {l : List UInt8} (h : Bs w b o l) (n : Nat) : Bs w b (o + n) (l.drop n) := fun i hi => by
  have hl : n + i < l.length := by simp at hi; omega
  have := h (n + i) hl
  rw [Nat.add_assoc]
  simpa using this
theorem Bs.kept {w w' : World} {b o : Nat} {l : List UInt8} (h : Bs w b o l) (hk : w'.heap[b]? = w.heap[b]?) : Bs w' b o l := fun i hi => (World.cell?_of_block (w := w) hk).trans (h i hi)

theorem or_add8 (n c : Nat) (hn : n < 16777216) (hc : c < 256) : bits BinOp.or IntKind.u32 ((n : Int) * 256 % 4294967296) (c : Int) = ((n * 256 + c : Nat) : Int) := by
  have h1 : ((n : Int) * 256 % 4294967296) = ((n * 256 : Nat) : Int) := by omega
  rw [h1, u32_or_nat _ _ (by omega) (by omega), nat_join 8 (n * 256) c (by omega) (by omega)]

/-- after k bytes -/
def wordTo (l : List UInt8) (k : Nat) : Nat := Sha.word (l.take k)
theorem wordTo_succ (l : List UInt8) (k : Nat) (h : k < l.length) : wordTo l (k + 1) = wordTo l k * 256 + l[k].toNat := by
  unfold wordTo
  rw [List.take_succ_eq_append_getElem h, Sha.word, List.foldl_append]
  rfl
theorem wordTo_lt (l : List UInt8) (k : Nat) (hk : k < 4) : wordTo l k < 16777216 := by
  unfold wordTo
  have key : ∀ (l : List UInt8) (n j : Nat), n < 256 ^ j → l.foldl (fun n c => n * 256 + c.toNat) n < 256 ^ (j + l.length) := by
    intro l
    induction l with
    | nil => intro n k h; simpa using h
    | cons c l ih =>
      intro n k h
      have hc := c.toNat_lt
      have := ih (n * 256 + c.toNat) (k + 1) (by rw [Nat.pow_succ]; omega)
      simp only [List.foldl_cons, List.length_cons]
      rw [show k + (l.length + 1) = k + 1 + l.length by omega]; exact this
  have h1 := key (l.take k) 0 0 (by simp)
  have h2 : 256 ^ (0 + (l.take k).length) ≤ 256 ^ 3 := Nat.pow_le_pow_right (by omega) (by have := List.length_take_le k l; omega)
  exact Nat.lt_of_lt_of_le h1 h2

set_option maxHeartbeats 400000 in
theorem word_calls (b o len cap : Nat) (l : List UInt8) (w : World) (hl : l.length = 4) (hlen : 4 ≤ len) (hcap : len ≤ cap) (hm : cap ≤ maxLen) (hb : Bs w b o l) :
    Calls Tryd.prog 69 #[.slice (some ⟨b, o, none⟩) len cap] w fun e w' => e = .returned (.int .u32 (Sha.word l : Nat)) ∧ w = w' := by
  unfold maxLen at hm
  have hfin : Hid (wordTo l 4 = Sha.word l) := by show _ = _; unfold wordTo; rw [List.take_of_length_le (by omega)]
  have HB := Lib.hid hb
  have HL := Lib.hid hl
  clear hb hl
  go_enter Tryd.func69, Tryd.ntmps69
  go_wp2
  go_loop [2, 8] (fun n i => ∃ k : Nat, k ≤ 4 ∧ i = .int .i64 k ∧ n = .int .u32 (wordTo l k : Nat)) (fun _ i => 4 - (intOf i).toNat)
  case atStart => exact ⟨0, by omega, rfl, rfl⟩
  case round =>
    obtain ⟨k, hk, rfl, rfl⟩ := hrel
    by_cases hlt : k < 4
    · have hk4 : k < l.length := by rw [HL.out]; exact hlt
      have hcell := HB.out k hk4
      have hs := Lib.hid (wordTo_succ l k hk4)
      have hc := (l[k]).toNat_lt
      have hw := wordTo_lt l k hlt
      have hor := or_add8 (wordTo l k) (l[k]).toNat hw hc
      generalize (l[k]).toNat = c at *
      clear hk4 hw
      obtain ⟨n, hn⟩ : ∃ n, n = wordTo l k := ⟨_, rfl⟩
      rw [← hn] at hor
      have HN : Hid (wordTo l (k + 1) = n * 256 + c) := by rw [hn]; exact hs.out
      rw [← hn]
      clear hs hn
      go_wp2
      go_round
      case rel => exact ⟨k + 1, by omega, by go_num, by rw [HN.out]; go_num⟩
      case measure => simp [intOf]; omega
    · have hk4 : k = 4 := by omega
      subst hk4
      rw [hfin.out]
      go_wp2
      go_ret
      exact ⟨rfl, rfl⟩

end Go.Proofs.YtmifpokafaiebaaDoor
