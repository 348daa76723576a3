/- THE WALKS OF acequiaref02, 1: ror, word, and the bits of its two functions. -/
import Derived.Test.YtmifpokafaiebaaDoorShaW
import Derived.StillTailTactics
import Derived.Deep.QuietTactic
import Derived.BigQuiet
import Derived.Deep.RegionLaw
namespace Go.Proofs.YtmifpokafaiebaaDoor
open Go.RowKit
set_option linter.unusedVariables false

theorem ror_calls (k x : Nat) (w : World) (hk : 1 ≤ k) (hk2 : k ≤ 31) (hx : x < 4294967296) :
    Calls Tryd.prog 73 #[.int .u32 x, .int .i64 k] w fun e w' => e = .returned (.int .u32 (Sha.rot k x : Nat)) ∧ ∃ m, w' = w.drewN m := by
  have e1 : IntKind.i64.wrap ((32 : Int) - k) = ((32 - k : Nat) : Int) := by rw [IntWalk.i64_in _ (by omega)]; omega
  have e2 : ((32 : Int) - k) = ((32 - k : Nat) : Int) := by omega
  have e : Hid (((Sha.rot k x : Nat) : Int) = bits BinOp.or IntKind.u32 ((x : Int) / 2 ^ k) ((x : Int) * 2 ^ (32 - k) % 4294967296)) := by
    have h1 : x * 2 ^ (32 - k) % 4294967296 < 4294967296 := Nat.mod_lt _ (by omega)
    have h2 : x / 2 ^ k < 4294967296 := Sha.div_lt hx
    have := u32_or_nat _ _ h2 h1
    show _ = _
    rw [Sha.rot, Nat.or_comm, ← this]
    simp
  go_enter Tryd.func73, Tryd.ntmps73
  go_wp2
  go_quiet (fail)
  go_wp2
  go_ret
  rw [e.out]
  exact ⟨rfl, _, rfl⟩

theorem ch_alt (e f g : Nat) (he : e < 4294967296) (hf : f < 4294967296) (hg : g < 4294967296) : (e &&& f) ^^^ ((4294967295 - e) &&& g) = Sha.ch e f g := by
  unfold Sha.ch
  have h : ∀ a b c : BitVec 32, (a &&& b) ^^^ (~~~a &&& c) = c ^^^ (a &&& (b ^^^ c)) := by intro a b c; ext i; simp; cases a[i] <;> cases b[i] <;> cases c[i] <;> rfl
  have := congrArg BitVec.toNat (h (BitVec.ofNat 32 e) (BitVec.ofNat 32 f) (BitVec.ofNat 32 g))
  simpa [BitVec.toNat_xor, BitVec.toNat_and, BitVec.toNat_not, Nat.mod_eq_of_lt he, Nat.mod_eq_of_lt hf, Nat.mod_eq_of_lt hg] using this

theorem mj_alt (a b c : Nat) (ha : a < 4294967296) (hb : b < 4294967296) (hc : c < 4294967296) : ((a &&& b) ^^^ (a &&& c)) ^^^ (b &&& c) = Sha.mj a b c := by
  unfold Sha.mj
  have h : ∀ a b c : BitVec 32, ((a &&& b) ^^^ (a &&& c)) ^^^ (b &&& c) = (a &&& b) ||| (c &&& (a ||| b)) := by intro a b c; ext i; simp; cases a[i] <;> cases b[i] <;> cases c[i] <;> rfl
  have := congrArg BitVec.toNat (h (BitVec.ofNat 32 a) (BitVec.ofNat 32 b) (BitVec.ofNat 32 c))
  simpa [BitVec.toNat_xor, BitVec.toNat_and, BitVec.toNat_or, Nat.mod_eq_of_lt ha, Nat.mod_eq_of_lt hb, Nat.mod_eq_of_lt hc] using this

set_option maxRecDepth 100000 in
theorem wordTo4 (c0 c1 c2 c3 : Nat) (h0 : c0 < 256) (h1 : c1 < 256) (h2 : c2 < 256) (h3 : c3 < 256) :
    bits BinOp.or IntKind.u32 (bits BinOp.or IntKind.u32 (bits BinOp.or IntKind.u32 ((c0 : Int) * 16777216) ((c1 : Int) * 65536)) ((c2 : Int) * 256)) (c3 : Int) = ((((c0 * 256 + c1) * 256 + c2) * 256 + c3 : Nat) : Int) := by
  have a0 : ((c0 : Int) * 16777216) = ((c0 * 16777216 : Nat) : Int) := by omega
  have a1 : ((c1 : Int) * 65536) = ((c1 * 65536 : Nat) : Int) := by omega
  have a2 : ((c2 : Int) * 256) = ((c2 * 256 : Nat) : Int) := by omega
  rw [a0, a1, a2, u32_or_nat _ _ (by omega) (by omega), nat_join 24 (c0 * 16777216) (c1 * 65536) (by omega) (by omega), u32_or_nat _ _ (by omega) (by omega), nat_join 16 (c0 * 16777216 + c1 * 65536) (c2 * 256) (by omega) (by omega),
    u32_or_nat _ _ (by omega) (by omega), nat_join 8 _ c3 (by omega) (by omega)]
  congr 1
  omega

set_option maxRecDepth 100000 in
theorem rword_calls (b o len cap : Nat) (l : List UInt8) (w : World) (hl : l.length = 4) (hlen : 4 ≤ len) (hb : Bs w b o l) :
    Calls Tryd.prog 72 #[.slice (some ⟨b, o, none⟩) len cap] w fun e w' => e = .returned (.int .u32 (Sha.word l : Nat)) ∧ ∃ m, w' = w.drewN m := by
  match l, hl with
  | [b0, b1, b2, b3], _ =>
    have c0 := hb 0 (by simp)
    have c1 := hb 1 (by simp)
    have c2 := hb 2 (by simp)
    have c3 := hb 3 (by simp)
    simp only [List.getElem_cons_zero, List.getElem_cons_succ, Nat.add_zero] at c0 c1 c2 c3
    have h0 := b0.toNat_lt
    have h1 := b1.toNat_lt
    have h2 := b2.toNat_lt
    have h3 := b3.toNat_lt
    have hw : Hid (Sha.word [b0, b1, b2, b3] = ((b0.toNat * 256 + b1.toNat) * 256 + b2.toNat) * 256 + b3.toNat) := by show _ = _; simp [Sha.word]
    generalize b0.toNat = n0 at *
    generalize b1.toNat = n1 at *
    generalize b2.toNat = n2 at *
    generalize b3.toNat = n3 at *
    have hfin := Lib.hid (wordTo4 n0 n1 n2 n3 h0 h1 h2 h3)
    clear hb
    rw [hw.out]
    go_enter Tryd.func72, Tryd.ntmps72
    go_wp2
    go_quiet (fail)
    go_wp2
    go_ret
    refine ⟨?_, _, rfl⟩
    rw [← hfin.out]
    rfl

end Go.Proofs.YtmifpokafaiebaaDoor
