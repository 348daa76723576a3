/- THE WALK OF digest.put. -/
import Derived.Test.YtmifpokafaiebaaDoorAbs
namespace Go.Proofs.YtmifpokafaiebaaDoor
open Go.RowKit
set_option linter.unusedVariables false

/-- bytes as cells -/
def u8s (l : List UInt8) : List Value := l.map fun c => Value.int .u8 (c.toNat : Nat)
theorem u8s_length (l : List UInt8) : (u8s l).length = l.length := by simp [u8s]

theorem be_cons : ∀ (k x : Nat), Sha.be (k + 1) x = UInt8.ofNat (x / 256 ^ k % 256) :: Sha.be k x
  | 0, x => by simp [Sha.be]
  | k + 1, x => by
    rw [Sha.be, be_cons k (x / 256), Sha.be, Nat.div_div_eq_div_mul, Nat.pow_succ, Nat.mul_comm 256]
    rfl

def putIn (cs : List Value) (o len k x : Nat) : List Value := cs.take (o + len - k) ++ (u8s (Sha.be k x) ++ cs.drop (o + len))
theorem putIn_zero (cs : List Value) (o len x : Nat) : putIn cs o len 0 x = cs := by simp [putIn, Sha.be, u8s]
theorem putIn_succ (cs : List Value) (o len k x : Nat) (hk : k < len) (hl : o + len ≤ cs.length) :
    (putIn cs o len k x).set (o + (len - 1 - k)) (.int .u8 ((UInt8.ofNat (x / 256 ^ k % 256)).toNat : Nat)) = putIn cs o len (k + 1) x := by
  unfold putIn
  have e : o + len - k = o + len - (k + 1) + 1 := by omega
  have hi : o + len - (k + 1) < cs.length := by omega
  rw [be_cons, e, List.take_add_one, List.getElem?_eq_getElem hi, List.append_assoc, List.set_append_right _ _ (by simp; omega)]
  have e2 : o + (len - 1 - k) - (List.take (o + len - (k + 1)) cs).length = 0 := by simp; omega
  rw [e2]
  simp [u8s]

set_option maxRecDepth 100000 in
set_option maxHeartbeats 1000000 in
theorem put_calls (bb o len cap x : Nat) (cs : List Value) (t : TypeId) (w : World) (hx : x < 2 ^ 64) (hlen : len ≤ 8) (hcap : len ≤ cap) (hm : cap ≤ maxLen) (hin : o + len ≤ cs.length)
    (hh : w.heap[bb]? = some (.cells cs.toArray t (0, 0))) :
    Calls Tryd.prog 55 #[.slice (some ⟨bb, o, none⟩) len cap, .int .u64 x] w fun e w' => (∃ v, e = .returned v) ∧ Chg (· = bb) w w' ∧
      w'.heap[bb]? = some (.cells (cs.take o ++ (u8s (Sha.be len x) ++ cs.drop (o + len))).toArray t (0, 0)) := by
  unfold maxLen at hm
  have HH := Lib.hid hh
  clear hh
  go_enter Tryd.func55, Tryd.ntmps55
  go_wp2
  go_loopw [4, 7] (fun _ v wq => ∃ k : Nat, k ≤ len ∧ v = .int .i64 k ∧ wq.heap[bb]? = some (.cells (putIn cs o len k x).toArray t (0, 0)) ∧ Chg (· = bb) w wq)
    (fun _ v _ => len - (intOf v).toNat)
  case atStart => exact ⟨0, by omega, rfl, by rw [putIn_zero]; exact HH.out, Chg.refl _ _⟩
  case round =>
    obtain ⟨k, hk, rfl, hs, hc⟩ := hrel
    by_cases hlt : k < len
    · have fz := free_row hs (o + (len - 1 - k))
      have hst := Lib.hid (putIn_succ cs o len k x hlt hin)
      have hlen1 : (putIn cs o len k x).length = cs.length := by simp [putIn, u8s, Sha.be_length]; omega
      have hcl := cell_of_row wr bb (o + (len - 1 - k)) _ t _ hs
      rw [List.getElem?_toArray, List.getElem?_eq_getElem (by rw [hlen1]; omega)] at hcl
      have HS := Lib.hid hs
      generalize (putIn cs o len k x)[o + (len - 1 - k)]'(by rw [hlen1]; omega) = old at *
      have e1 : IntKind.i64.wrap ((len : Int) - 1) = (len : Int) - 1 := IntWalk.i64_in _ (by omega)
      have e2 : IntKind.i64.wrap ((len : Int) - 1 - k) = (len : Int) - 1 - k := IntWalk.i64_in _ (by omega)
      have e3 : IntKind.i64.wrap (8 * (k : Int)) = 8 * (k : Int) := IntWalk.i64_in _ (by omega)
      have n2 : ((len : Int) - 1 - k).toNat = len - 1 - k := by omega
      have p2 : (0 : Int) ≤ (len : Int) - 1 - k := by omega
      have l2 : (len : Int) - 1 - k < len := by omega
      clear hs hlen1
      go_wp2_with fail
      have hval : ((x : Int) / 2 ^ (8 * k) % 256) = (((UInt8.ofNat (x / 256 ^ k % 256)).toNat : Nat) : Int) := by
        have h : (2 : Int) ^ (8 * k) = ((256 ^ k : Nat) : Int) := by
          rw [show 256 = 2 ^ 8 from rfl, ← Nat.pow_mul]; norm_cast
        have : x / 256 ^ k % 256 % 2 ^ 8 = x / 256 ^ k % 256 := by omega
        rw [UInt8.toNat_ofNat', this, h]
        norm_cast
      rw [hval]
      refine ⟨⟨k + 1, by omega, by go_num, ?_, hc.setCell (.inl rfl) _⟩, by simp [intOf]; omega⟩
      rw [heap_setCell_same _ bb _ _ t _ HS.out]
      have := hst.out
      rw [← this]
      simp
    · have hk4 : k = len := by omega
      subst hk4
      have HS : Hid (wr.heap[bb]? = some (.cells (cs.take o ++ (u8s (Sha.be k x) ++ cs.drop (o + k))).toArray t (0, 0))) := by
        show _ = _
        rw [hs, putIn, Nat.add_sub_cancel]
      clear hs
      go_wp2
      go_end0
      exact ⟨⟨_, rfl⟩, hc, HS.out⟩

end Go.Proofs.YtmifpokafaiebaaDoor
