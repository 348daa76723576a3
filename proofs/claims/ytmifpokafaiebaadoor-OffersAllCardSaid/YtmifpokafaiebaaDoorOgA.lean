/- offers and their lots; the program's offers.Check. the program's offers.list, Message, Commit. the program's offers.Message. A REGION THAT DRAWS ITS ORDER: still ones and a chain that keeps the class, as in Mix, but the last operation, for which all others stand ahead, need not keep the class. It names no program. the program's offers.Message, walked. the program's offers.Commit. -/
import Derived.Test.YtmifpokafaiebaaDoorRw
import Derived.Test.YtmifpokafaiebaaDoorTag
import Derived.Test.YtmifpokafaiebaaDoorR02T
import Derived.Test.YtmifpokafaiebaaDoorMix
namespace Go.Proofs.YtmifpokafaiebaaDoor
open Go Go.RowKit
set_option linter.unusedVariables false
set_option maxRecDepth 100000

/-- an offer -/
structure Of where
  no : Int
  farm : Int
  price : Int
  lo : Int
  hi : Int
  lots : List (Int × Int)
/-- an offer and where its lots lie -/
structure OfA where
  o : Of
  p : Option Addr
  c : Nat
def ltEnc (x : Int × Int) : List Value := [.int .i64 x.1, .int .i64 x.2]
theorem ltEnc_len (x : Int × Int) : (ltEnc x).length = 2 := rfl
theorem ltEnc_one (x : Int × Int) : ∀ u ∈ ltEnc x, u.oneCell' = true := by intro u hu; simp only [ltEnc, List.mem_cons, List.not_mem_nil, or_false] at hu; rcases hu with rfl | rfl <;> rfl
def ofCells (a : OfA) : List Value := [.int .i64 a.o.no, .int .i64 a.o.farm, .int .i64 a.o.price, .int .i64 a.o.lo, .int .i64 a.o.hi, .slice a.p a.o.lots.length a.c]
theorem ofCells_len (a : OfA) : (ofCells a).length = 6 := rfl
theorem ofCells_one (a : OfA) : ∀ u ∈ ofCells a, u.oneCell' = true := by
  intro u hu
  simp only [ofCells, List.mem_cons, List.not_mem_nil, or_false] at hu
  rcases hu with rfl | rfl | rfl | rfl | rfl | rfl <;> rfl
/-- the lots lie there -/
structure LtsAt (w : World) (a : OfA) : Prop where
  row : RowAt w a.p 2 ltEnc a.o.lots
  cap : a.o.lots.length ≤ a.c
  capm : a.c ≤ maxLen
theorem RowAt.up2 {w w' : World} {p : Option Addr} {l : List (Int × Int)} (h : RowAt w p 2 ltEnc l) (hu : Up w w') : RowAt w' p 2 ltEnc l := fun hne => by
  obtain ⟨b, o, e, hi⟩ := h hne
  exact ⟨b, o, e, fun i h => rangeAt_up (hi i h) hu⟩
theorem LtsAt.up {w w' : World} {a : OfA} (h : LtsAt w a) (hu : Up w w') : LtsAt w' a := ⟨h.row.up2 hu, h.cap, h.capm⟩

def badHead (o : Of) : Bool := decide (o.no < 0) || decide (1048576 < o.no) || decide (o.farm < 0) || decide (600 ≤ o.farm) || decide (o.price < -1073741824) || decide (1073741824 < o.price) || decide (o.lo < 0) || decide (o.hi < o.lo) || decide (10000 < o.hi) || decide (o.lots.length = 0)
def badLot (last : Int) (x : Int × Int) : Bool := decide (x.1 ≤ last) || decide (8 ≤ x.1) || decide (x.2 = 0) || decide (x.2 < -1073741824) || decide (1073741824 < x.2)
def lotsB : Int → List (Int × Int) → Bool
  | _, [] => true
  | last, x :: l => !badLot last x && lotsB x.1 l
/-- Check of an offer -/
def chkO (o : Of) : Int := if 8 < o.lots.length then 2 else if badHead o then 440 else if lotsB (-1) o.lots then 0 else 440

theorem badHead_cases (o : Of) (m : Nat) (hm : m = o.lots.length) : (badHead o = true ∧ ((decide (o.no < 0) = true) ∨ (decide (o.no < 0) = false ∧ decide (1048576 < o.no) = true) ∨ (decide (o.no < 0) = false ∧ decide (1048576 < o.no) = false ∧ decide (o.farm < 0) = true) ∨ (decide (o.no < 0) = false ∧ decide (1048576 < o.no) = false ∧ decide (o.farm < 0) = false ∧ decide (600 ≤ o.farm) = true) ∨ (decide (o.no < 0) = false ∧ decide (1048576 < o.no) = false ∧ decide (o.farm < 0) = false ∧ decide (600 ≤ o.farm) = false ∧ decide (o.price < -1073741824) = true) ∨ (decide (o.no < 0) = false ∧ decide (1048576 < o.no) = false ∧ decide (o.farm < 0) = false ∧ decide (600 ≤ o.farm) = false ∧ decide (o.price < -1073741824) = false ∧ decide (1073741824 < o.price) = true) ∨ (decide (o.no < 0) = false ∧ decide (1048576 < o.no) = false ∧ decide (o.farm < 0) = false ∧ decide (600 ≤ o.farm) = false ∧ decide (o.price < -1073741824) = false ∧ decide (1073741824 < o.price) = false ∧ decide (o.lo < 0) = true) ∨ (decide (o.no < 0) = false ∧ decide (1048576 < o.no) = false ∧ decide (o.farm < 0) = false ∧ decide (600 ≤ o.farm) = false ∧ decide (o.price < -1073741824) = false ∧ decide (1073741824 < o.price) = false ∧ decide (o.lo < 0) = false ∧ decide (o.hi < o.lo) = true) ∨ (decide (o.no < 0) = false ∧ decide (1048576 < o.no) = false ∧ decide (o.farm < 0) = false ∧ decide (600 ≤ o.farm) = false ∧ decide (o.price < -1073741824) = false ∧ decide (1073741824 < o.price) = false ∧ decide (o.lo < 0) = false ∧ decide (o.hi < o.lo) = false ∧ decide (10000 < o.hi) = true) ∨ (decide (o.no < 0) = false ∧ decide (1048576 < o.no) = false ∧ decide (o.farm < 0) = false ∧ decide (600 ≤ o.farm) = false ∧ decide (o.price < -1073741824) = false ∧ decide (1073741824 < o.price) = false ∧ decide (o.lo < 0) = false ∧ decide (o.hi < o.lo) = false ∧ decide (10000 < o.hi) = false ∧ ((m : Int) == 0) = true))) ∨ (badHead o = false ∧ decide (o.no < 0) = false ∧ decide (1048576 < o.no) = false ∧ decide (o.farm < 0) = false ∧ decide (600 ≤ o.farm) = false ∧ decide (o.price < -1073741824) = false ∧ decide (1073741824 < o.price) = false ∧ decide (o.lo < 0) = false ∧ decide (o.hi < o.lo) = false ∧ decide (10000 < o.hi) = false ∧ ((m : Int) == 0) = false) := by
  unfold badHead
  subst hm
  by_cases c0 : o.no < 0
  · refine .inl ⟨by simp [c0], .inl (by simp; omega)⟩
  by_cases c1 : 1048576 < o.no
  · refine .inl ⟨by simp [c1], .inr (.inl (⟨by simp; omega, by simp; omega⟩))⟩
  by_cases c2 : o.farm < 0
  · refine .inl ⟨by simp [c2], .inr (.inr (.inl (⟨by simp; omega, by simp; omega, by simp; omega⟩)))⟩
  by_cases c3 : 600 ≤ o.farm
  · refine .inl ⟨by simp [c3], .inr (.inr (.inr (.inl (⟨by simp; omega, by simp; omega, by simp; omega, by simp; omega⟩))))⟩
  by_cases c4 : o.price < -1073741824
  · refine .inl ⟨by simp [c4], .inr (.inr (.inr (.inr (.inl (⟨by simp; omega, by simp; omega, by simp; omega, by simp; omega, by simp; omega⟩)))))⟩
  by_cases c5 : 1073741824 < o.price
  · refine .inl ⟨by simp [c5], .inr (.inr (.inr (.inr (.inr (.inl (⟨by simp; omega, by simp; omega, by simp; omega, by simp; omega, by simp; omega, by simp; omega⟩))))))⟩
  by_cases c6 : o.lo < 0
  · refine .inl ⟨by simp [c6], .inr (.inr (.inr (.inr (.inr (.inr (.inl (⟨by simp; omega, by simp; omega, by simp; omega, by simp; omega, by simp; omega, by simp; omega, by simp; omega⟩)))))))⟩
  by_cases c7 : o.hi < o.lo
  · refine .inl ⟨by simp [c7], .inr (.inr (.inr (.inr (.inr (.inr (.inr (.inl (⟨by simp; omega, by simp; omega, by simp; omega, by simp; omega, by simp; omega, by simp; omega, by simp; omega, by simp; omega⟩))))))))⟩
  by_cases c8 : 10000 < o.hi
  · refine .inl ⟨by simp [c8], .inr (.inr (.inr (.inr (.inr (.inr (.inr (.inr (.inl (⟨by simp; omega, by simp; omega, by simp; omega, by simp; omega, by simp; omega, by simp; omega, by simp; omega, by simp; omega, by simp; omega⟩)))))))))⟩
  by_cases c9 : o.lots.length = 0
  · refine .inl ⟨by simp [c9], .inr (.inr (.inr (.inr (.inr (.inr (.inr (.inr (.inr ((⟨by simp; omega, by simp; omega, by simp; omega, by simp; omega, by simp; omega, by simp; omega, by simp; omega, by simp; omega, by simp; omega, by rw [beq_iff_eq]; omega⟩))))))))))⟩
  · refine .inr ⟨by simp [c0, c1, c2, c3, c4, c5, c6, c7, c8, c9], by simp; omega, by simp; omega, by simp; omega, by simp; omega, by simp; omega, by simp; omega, by simp; omega, by simp; omega, by simp; omega, by rw [beq_eq_false_iff_ne]; omega⟩

theorem badLot_cases (last : Int) (x : Int × Int) : (badLot last x = true ∧ ((decide (x.1 ≤ last) = true) ∨ (decide (x.1 ≤ last) = false ∧ decide (8 ≤ x.1) = true) ∨ (decide (x.1 ≤ last) = false ∧ decide (8 ≤ x.1) = false ∧ (x.2 == 0) = true) ∨ (decide (x.1 ≤ last) = false ∧ decide (8 ≤ x.1) = false ∧ (x.2 == 0) = false ∧ decide (x.2 < -1073741824) = true) ∨ (decide (x.1 ≤ last) = false ∧ decide (8 ≤ x.1) = false ∧ (x.2 == 0) = false ∧ decide (x.2 < -1073741824) = false ∧ decide (1073741824 < x.2) = true))) ∨ (badLot last x = false ∧ decide (x.1 ≤ last) = false ∧ decide (8 ≤ x.1) = false ∧ (x.2 == 0) = false ∧ decide (x.2 < -1073741824) = false ∧ decide (1073741824 < x.2) = false) := by
  unfold badLot
  by_cases c0 : x.1 ≤ last
  · refine .inl ⟨by simp [c0], .inl (by simp; omega)⟩
  by_cases c1 : 8 ≤ x.1
  · refine .inl ⟨by simp [c1], .inr (.inl (⟨by simp; omega, by simp; omega⟩))⟩
  by_cases c2 : x.2 = 0
  · refine .inl ⟨by simp [c2], .inr (.inr (.inl (⟨by simp; omega, by simp; omega, by simp; omega⟩)))⟩
  by_cases c3 : x.2 < -1073741824
  · refine .inl ⟨by simp [c3], .inr (.inr (.inr (.inl (⟨by simp; omega, by simp; omega, by simp; omega, by simp; omega⟩))))⟩
  by_cases c4 : 1073741824 < x.2
  · refine .inl ⟨by simp [c4], .inr (.inr (.inr (.inr ((⟨by simp; omega, by simp; omega, by simp; omega, by simp; omega, by simp; omega⟩)))))⟩
  · refine .inr ⟨by simp [c0, c1, c2, c3, c4], by simp; omega, by simp; omega, by simp; omega, by simp; omega, by simp; omega⟩

theorem lotsB_drop (last : Int) (l : List (Int × Int)) (i : Nat) (h : i < l.length) : lotsB last (l.drop i) = (!badLot last l[i] && lotsB (l[i]).1 (l.drop (i + 1))) := by
  rw [List.drop_eq_getElem_cons h, lotsB]

set_option maxHeartbeats 8000000 in
theorem ofCheck_calls (a : OfA) (w : World) (h : LtsAt w a) : Calls Tryd.prog 16 #[.agg (ofCells a).toArray] w fun e w' => e = .returned (.int .i64 (chkO a.o)) ∧ Up w w' := by
  obtain ⟨o, p, c⟩ := a
  obtain ⟨hr, hc, hcm⟩ := h
  unfold ofCells chkO
  simp only at hr hc hcm ⊢
  have hcs := badHead_cases o o.lots.length rfl
  obtain ⟨m, hm⟩ : ∃ m, m = o.lots.length := ⟨_, rfl⟩
  rw [← hm] at hcs hc ⊢
  by_cases h8 : 8 < m
  case pos =>
    have d : decide ((8 : Int) < (m : Int)) = true := by simp; omega
    rw [if_pos h8]
    clear hcs hm hr h8
    go_enter Tryd.func16, Tryd.ntmps16
    go_wp2
    go_ret
    exact ⟨rfl, (Up.refl w).alloc _⟩
  have d : decide ((8 : Int) < (m : Int)) = false := by simp; omega
  rw [if_neg h8]
  have HM := Lib.hid hm
  have HRW := Lib.hid hr
  have HCS := Lib.hid hcs
  clear hm hr hcs
  rcases HCS.out with ⟨hb, hd⟩ | ⟨hb, d0, d1, d2, d3, d4, d5, d6, d7, d8, d9⟩
  · rw [if_pos hb]
    clear hb HCS HM HRW h8
    rcases hd with d0 | ⟨d0, d1⟩ | ⟨d0, d1, d2⟩ | ⟨d0, d1, d2, d3⟩ | ⟨d0, d1, d2, d3, d4⟩ | ⟨d0, d1, d2, d3, d4, d5⟩ | ⟨d0, d1, d2, d3, d4, d5, d6⟩ | ⟨d0, d1, d2, d3, d4, d5, d6, d7⟩ | ⟨d0, d1, d2, d3, d4, d5, d6, d7, d8⟩ | ⟨d0, d1, d2, d3, d4, d5, d6, d7, d8, d9⟩
    · go_enter Tryd.func16, Tryd.ntmps16
      go_wp2
      go_ret
      exact ⟨rfl, (Up.refl w).alloc _⟩
    · go_enter Tryd.func16, Tryd.ntmps16
      go_wp2
      go_ret
      exact ⟨rfl, (Up.refl w).alloc _⟩
    · go_enter Tryd.func16, Tryd.ntmps16
      go_wp2
      go_ret
      exact ⟨rfl, (Up.refl w).alloc _⟩
    · go_enter Tryd.func16, Tryd.ntmps16
      go_wp2
      go_ret
      exact ⟨rfl, (Up.refl w).alloc _⟩
    · go_enter Tryd.func16, Tryd.ntmps16
      go_wp2
      go_ret
      exact ⟨rfl, (Up.refl w).alloc _⟩
    · go_enter Tryd.func16, Tryd.ntmps16
      go_wp2
      go_ret
      exact ⟨rfl, (Up.refl w).alloc _⟩
    · go_enter Tryd.func16, Tryd.ntmps16
      go_wp2
      go_ret
      exact ⟨rfl, (Up.refl w).alloc _⟩
    · go_enter Tryd.func16, Tryd.ntmps16
      go_wp2
      go_ret
      exact ⟨rfl, (Up.refl w).alloc _⟩
    · go_enter Tryd.func16, Tryd.ntmps16
      go_wp2
      go_ret
      exact ⟨rfl, (Up.refl w).alloc _⟩
    · go_enter Tryd.func16, Tryd.ntmps16
      go_wp2
      go_ret
      exact ⟨rfl, (Up.refl w).alloc _⟩
  rw [if_neg (by rw [hb]; simp)]
  clear hb HCS
  obtain ⟨V, hV⟩ : ∃ V : Int, V = if lotsB (-1) o.lots then 0 else 440 := ⟨_, rfl⟩
  rw [← hV]
  have HV := Lib.hid hV
  clear hV
  go_enter Tryd.func16, Tryd.ntmps16
  go_wp2_with fail
  refine wp_named ?_
  intro W hW
  have x1 : W.heap[w.heap.size]? = some (.cells #[.int .i64 o.no, .int .i64 o.farm, .int .i64 o.price, .int .i64 o.lo, .int .i64 o.hi, .slice p m c] 26 (0, 0)) := by rw [hW]; exact heap_new rfl
  have u1 : Up w W := by rw [hW]; exact (Up.refl w).alloc _
  have X1 := Lib.hid x1
  have U1 := Lib.hid u1
  clear hW x1 u1 d0 d1 d2 d3 d4 d5 d6 d7 d8 d9 d
  go_loopw [3, 68] (fun v3 v68 wq => ∃ (i : Nat) (last : Int), i ≤ m ∧ v68 = .int .i64 i ∧ v3 = .int .i64 last ∧ Hid (lotsB (-1) o.lots = lotsB last (o.lots.drop i)) ∧ Hid (Up W wq)) (fun _ v68 _ => m - (intOf v68).toNat)
  case atStart => exact ⟨0, -1, by omega, rfl, rfl, rfl, Up.refl _⟩
  case round =>
    obtain ⟨i, last, hi, rfl, rfl, HB, HU⟩ := hrel
    by_cases hlt : i < m
    case neg =>
      have hv : V = 0 := by
        rw [HV.out, HB.out, List.drop_of_length_le (by rw [← HM.out]; omega)]; rfl
      subst hv
      go_wp2
      go_ret
      exact ⟨rfl, Up.trans U1.out HU.out⟩
    have hil : i < o.lots.length := by rw [← HM.out]; exact hlt
    obtain ⟨b, off, rfl, hpr⟩ := HRW.out (by rintro hh; rw [hh] at hil; simp at hil)
    have g := rangeAt_up (hpr i hil) (Up.trans U1.out HU.out)
    have hst := lotsB_drop last o.lots i hil
    obtain ⟨x, hx⟩ : ∃ x, x = o.lots[i] := ⟨_, rfl⟩
    rw [← hx] at g hst
    have hbc := badLot_cases last x
    have G := Lib.hid (show wr.rangeAt b (off + i * 2) (#[Value.int .i64 x.1, Value.int .i64 x.2] : Array Value).toList from g)
    have HST := Lib.hid hst
    have HBC := Lib.hid hbc
    clear hx g hst hbc hpr hil
    rcases HBC.out with ⟨hb, hd⟩ | ⟨hb, e0, e1, e2, e3, e4⟩
    · have hv : V = 440 := by rw [HV.out, HB.out, HST.out, hb]; rfl
      subst hv
      clear hb HBC HST HB HV
      rcases hd with e0 | ⟨e0, e1⟩ | ⟨e0, e1, e2⟩ | ⟨e0, e1, e2, e3⟩ | ⟨e0, e1, e2, e3, e4⟩
      · go_wp2_with ((with_reducible show wpList _ _ _ (Oper.mk _ (Op.load _ (Operand.tmp 70)) _ _ _ _ :: _) _ _); refine wpList_load_arr rfl 61 (.tmp 70) rfl b (off + i * 2) rfl #[Value.int .i64 x.1, Value.int .i64 x.2] _ G.out rfl rfl (by rfl) ?_)
        go_ret
        exact ⟨rfl, Up.trans U1.out (Up.trans HU.out ((Up.refl _).alloc _))⟩
      · go_wp2_with ((with_reducible show wpList _ _ _ (Oper.mk _ (Op.load _ (Operand.tmp 70)) _ _ _ _ :: _) _ _); refine wpList_load_arr rfl 61 (.tmp 70) rfl b (off + i * 2) rfl #[Value.int .i64 x.1, Value.int .i64 x.2] _ G.out rfl rfl (by rfl) ?_)
        go_ret
        exact ⟨rfl, Up.trans U1.out (Up.trans HU.out ((Up.refl _).alloc _))⟩
      · go_wp2_with ((with_reducible show wpList _ _ _ (Oper.mk _ (Op.load _ (Operand.tmp 70)) _ _ _ _ :: _) _ _); refine wpList_load_arr rfl 61 (.tmp 70) rfl b (off + i * 2) rfl #[Value.int .i64 x.1, Value.int .i64 x.2] _ G.out rfl rfl (by rfl) ?_)
        go_ret
        exact ⟨rfl, Up.trans U1.out (Up.trans HU.out ((Up.refl _).alloc _))⟩
      · go_wp2_with ((with_reducible show wpList _ _ _ (Oper.mk _ (Op.load _ (Operand.tmp 70)) _ _ _ _ :: _) _ _); refine wpList_load_arr rfl 61 (.tmp 70) rfl b (off + i * 2) rfl #[Value.int .i64 x.1, Value.int .i64 x.2] _ G.out rfl rfl (by rfl) ?_)
        go_ret
        exact ⟨rfl, Up.trans U1.out (Up.trans HU.out ((Up.refl _).alloc _))⟩
      · go_wp2_with ((with_reducible show wpList _ _ _ (Oper.mk _ (Op.load _ (Operand.tmp 70)) _ _ _ _ :: _) _ _); refine wpList_load_arr rfl 61 (.tmp 70) rfl b (off + i * 2) rfl #[Value.int .i64 x.1, Value.int .i64 x.2] _ G.out rfl rfl (by rfl) ?_)
        go_ret
        exact ⟨rfl, Up.trans U1.out (Up.trans HU.out ((Up.refl _).alloc _))⟩
    have HB2 : Hid (lotsB (-1) o.lots = lotsB x.1 (o.lots.drop (i + 1))) := by show _ = _; rw [HB.out, HST.out, hb]; rfl
    clear hb HBC HST HB
    go_wp2_with ((with_reducible show wpList _ _ _ (Oper.mk _ (Op.load _ (Operand.tmp 70)) _ _ _ _ :: _) _ _); refine wpList_load_arr rfl 61 (.tmp 70) rfl b (off + i * 2) rfl #[Value.int .i64 x.1, Value.int .i64 x.2] _ G.out rfl rfl (by rfl) ?_)
    exact ⟨⟨i + 1, x.1, by omega, by go_num, rfl, HB2, Up.trans HU.out ((Up.refl _).alloc _)⟩, by simp [intOf]; omega⟩

end Go.Proofs.YtmifpokafaiebaaDoor

namespace Go.Proofs.YtmifpokafaiebaaDoor
open Go Go.RowKit
set_option linter.unusedVariables false
set_option maxRecDepth 100000

def iEnc (n : Int) : List Value := [.int .i64 n]
theorem iEnc_len (n : Int) : (iEnc n).length = 1 := rfl
theorem iEnc_one (n : Int) : ∀ u ∈ iEnc n, u.oneCell' = true := by intro u hu; simp only [iEnc, List.mem_singleton] at hu; subst hu; rfl
theorem eltInt : EltT Tryd.prog 38 3 1 8 := ⟨rfl, _, _, rfl, rfl, by kernel_rfl, by kernel_rfl, by kernel_rfl⟩
theorem ownV_less {w : World} {base base' : Nat} {v : Value} {els : List El} (h : OwnV w base v els) (hb : base' ≤ base) : OwnV w base' v els := by
  refine ⟨h.1, ?_⟩
  rcases h.2 with h | ⟨g, cap, cur, rfl, hbg, hg, h2⟩
  · exact .inl h
  · exact .inr ⟨g, cap, cur, rfl, Nat.le_trans hb hbg, hg, h2⟩
def ints (ns : List Int) : List Enc.It := ns.map .inl

set_option maxHeartbeats 2000000 in
theorem olist_calls (p : Option Addr) (k c : Nat) (ns : List Int) (w : World) (hk : k = ns.length) (hk2 : k ≤ 100) (hc : k ≤ c) (hcm : c ≤ maxLen) (hr : RowAt w p 1 iEnc ns) :
    Calls Tryd.prog 28 #[.slice p k c] w fun e w' => ∃ sl, e = .returned (.agg #[.int .i64 3, .int .i64 0, .string ⟨#[]⟩, sl]) ∧ OwnV w' w.heap.size sl ((ints ns).map elIt) ∧ Up w w' := by
  have HK := Lib.hid hk
  have HR := Lib.hid hr
  clear hk hr
  go_enter Tryd.func28, Tryd.ntmps28
  go_wp2_with fail
  refine wp_named ?_
  intro W1 hW1
  obtain ⟨bt, hbt⟩ : ∃ bt, bt = w.heap.size := ⟨_, rfl⟩
  rw [← hbt]
  have h1 : Hid (∃ v, W1.heap[bt]? = some (.cells #[.int .i64 3, .int .i64 0, .string ⟨#[]⟩, v] 64 (0, 0)) ∧ OwnV W1 (bt + 1) v ((ints (ns.take 0)).map elIt)) := by
    refine ⟨.slice none 0 0, ?_, OwnV.nil _ _⟩
    rw [hW1]; exact heap_new hbt
  have u1 : Up w W1 := by rw [hW1]; exact (Up.refl w).alloc _
  have z1 : bt + 1 ≤ W1.heap.size := by have := (lt_of_block h1.out.choose_spec.1); omega
  have U1 := Lib.hid u1
  have HBT := Lib.hid hbt
  clear hW1 u1 hbt
  go_loopw [4, 8] (fun _ v8 wq => ∃ i : Nat, i ≤ k ∧ v8 = .int .i64 i ∧ Hid (∃ v, wq.heap[bt]? = some (.cells #[.int .i64 3, .int .i64 0, .string ⟨#[]⟩, v] 64 (0, 0)) ∧ OwnV wq (bt + 1) v ((ints (ns.take i)).map elIt)) ∧ Hid (Up w wq) ∧ bt + 1 ≤ wq.heap.size)
    (fun _ v8 _ => k - (intOf v8).toNat)
  case atStart => exact ⟨0, by omega, rfl, h1, U1, z1⟩
  case round =>
    obtain ⟨i, hi, rfl, hV, hU, hz⟩ := hrel
    obtain ⟨v, hv, hown⟩ := hV.out
    have q0 : wr.cell? ⟨bt, 0, none⟩ = some (.int .i64 3) := by rw [cell_of_row wr bt 0 _ _ _ hv]; rfl
    have q1 : wr.cell? ⟨bt, 1, none⟩ = some (.int .i64 0) := by rw [cell_of_row wr bt 1 _ _ _ hv]; rfl
    have q2 : wr.cell? ⟨bt, 2, none⟩ = some (.string ⟨#[]⟩) := by rw [cell_of_row wr bt 2 _ _ _ hv]; rfl
    have q3 : wr.cell? ⟨bt, 3, none⟩ = some v := by rw [cell_of_row wr bt 3 _ _ _ hv]; rfl
    by_cases hlt : i < k
    · have hi2 : i < ns.length := by rw [← HK.out]; exact hlt
      obtain ⟨b, o, rfl, hpr⟩ := HR.out (by rintro rfl; simp at hi2)
      have hg := rangeAt_up (hpr i hi2) hU.out
      have hstep : (ints (ns.take (i + 1))).map elIt = (ints (ns.take i)).map elIt ++ [elIt (.inl ns[i])] := by
        unfold ints; rw [List.take_succ_eq_append_getElem hi2, List.map_append, List.map_append]; rfl
      have hlen : ((ints (ns.take i)).map elIt).length ≤ 65535 := by simp [ints]; omega
      have hcv : wr.cell? ⟨b, o + i, none⟩ = some (.int .i64 ns[i]) := by simpa using hg 0 _ rfl
      have HV := Lib.hid hv
      have HO := Lib.hid hown
      have HSTEP := Lib.hid hstep
      have HLEN := Lib.hid hlen
      obtain ⟨n, hn⟩ : ∃ n, n = ns[i] := ⟨_, rfl⟩
      rw [← hn] at HSTEP hcv
      clear hV hv hown hstep hlen hn hg hpr
      have FIN : Hid (∀ (v' : Value) (w' : World), OwnV w' (bt + 1) v' ((ints (ns.take i)).map elIt ++ [elIt (.inl n)]) → Below (bt + 1) wr w' → Grow wr w' v v' →
          (∃ old, w'.cell? ⟨bt, 3, none⟩ = some old) ∧ w'.frozen? ⟨bt, 3, none⟩ = false ∧
          (∃ u, (w'.setCell ⟨bt, 3, none⟩ v').heap[bt]? = some (.cells #[.int .i64 3, .int .i64 0, .string ⟨#[]⟩, u] 64 (0, 0)) ∧ OwnV (w'.setCell ⟨bt, 3, none⟩ v') (bt + 1) u ((ints (ns.take (i + 1))).map elIt)) ∧ Up w (w'.setCell ⟨bt, 3, none⟩ v') ∧ bt + 1 ≤ (w'.setCell ⟨bt, 3, none⟩ v').heap.size) := fun v' w' ho hb hg => by
        have hh : w'.heap[bt]? = some (.cells #[.int .i64 3, .int .i64 0, .string ⟨#[]⟩, v] 64 (0, 0)) := (hb.block bt (by omega)).trans HV.out
        refine ⟨⟨v, by rw [cell_of_row w' bt 3 _ _ _ hh]; rfl⟩, free_row hh 3, ⟨v', ?_, ?_⟩, ?_, ?_⟩
        · rw [heap_setCell_same w' bt 3 _ _ _ hh]; rfl
        · rw [HSTEP.out]
          exact ho.kept fun g hg' => heap_setCell_other _ _ _ _ (by show g ≠ bt; have := ho.block g hg'; omega)
        · have a : Up w w' := Below.trans hU.out (hb.mono (by have := HBT.out; omega))
          exact ⟨a.os, a.tape, a.output, by simpa [World.setCell] using a.size, fun j hj => (heap_setCell_other _ _ _ _ (by show j ≠ bt; have := HBT.out; omega)).trans (a.block j hj)⟩
        · have := hb.size; simp [World.setCell]; omega
      go_wp2_with (at_builtin; refine wpList_appV rfl (.tmp 13) (.tmp 16) rfl rfl (bt + 1) _ _ (elIt (.inl n)) _ rfl rfl rfl HO.out HLEN.out hz ?_; intro p' m' c' w' o2 b2 g2; obtain ⟨⟨old, f1⟩, f2, f3, f4, f5⟩ := FIN.out _ w' o2 b2 g2; have F3 := Lib.hid f3; have F4 := Lib.hid f4; have F5 := Lib.hid f5; clear o2 b2 g2 f3 f4 f5)
      exact ⟨⟨i + 1, by omega, by go_num, F3, F4, F5.out⟩, by simp [intOf]; omega⟩
    · have him : i = k := by omega
      subst him
      have ho : OwnV wr (bt + 1) v ((ints ns).map elIt) := by
        have := hown
        rw [HK.out, List.take_length] at this
        exact this
      obtain ⟨pv, cv', rfl, -, -⟩ := ho.form
      obtain ⟨nv, hnv⟩ : ∃ n, n = ((ints ns).map elIt).length := ⟨_, rfl⟩
      rw [← hnv] at ho hv
      have HO := Lib.hid ho
      have HV := Lib.hid hv
      clear hown hV hv ho q0 q1 q2 q3 hnv
      go_wp2_with (first | (refine wpList_load_arr rfl 64 (.tmp 2) rfl bt 0 rfl #[.int .i64 3, .int .i64 0, .string ⟨#[]⟩, (.slice pv nv cv')] _ (rangeAt_row HV.out) rfl rfl (by rfl) ?_) | (refine wpList_store_row rfl 64 (.tmp 2) (.tmp 20) rfl bt #[.int .i64 3, .int .i64 0, .string ⟨#[]⟩, .slice pv nv cv'] rfl rfl 64 _ HV.out (by rfl) (by rfl) (by simp [Value.oneCell']) ?_))
      have hst := setRow_heap wr bt _ #[.int .i64 3, .int .i64 0, .string ⟨#[]⟩, .slice pv nv cv'] _ _ HV.out
      refine bodyPost_ret (results_cell_row rfl _ _ bt _ #[.int .i64 3, .int .i64 0, .string ⟨#[]⟩, .slice pv nv cv'] (0, 0) _ rfl hst rfl rfl (by rfl)) rfl ⟨_, rfl, ?_, ?_⟩
      · have hb := HBT.out
        have := HO.out.kept (w' := wr.setRow bt #[.int .i64 3, .int .i64 0, .string ⟨#[]⟩, .slice pv nv cv']) fun g hg => setRow_other _ _ _ _ (by have := HO.out.block g hg; omega)
        rw [← hb]
        exact ownV_less this (Nat.le_succ _)
      · exact below_setRow hU.out (Nat.le_of_eq HBT.out.symm) _

end Go.Proofs.YtmifpokafaiebaaDoor

namespace Go.Proofs.YtmifpokafaiebaaDoor
open Go Go.RowKit
set_option linter.unusedVariables false
set_option maxRecDepth 100000

/-! ### the message, plain -/
def lotNs (l : List (Int × Int)) : List Int := l.flatMap fun x => [x.1, x.2]
def headNs (o : Of) : List Int := [o.no, o.farm, o.price, o.lo, o.hi]
/-- the bytes that are committed to -/
def encMsg (o : Of) (salt : List UInt8) : List UInt8 := Enc.encL ((headNs o).map Enc.encI ++ [encIts (ints (lotNs o.lots)), Enc.encT salt])
def msgE (o : Of) (salt : List UInt8) : Int := if chkO o = 0 then (if salt.length = 16 then 0 else 440) else chkO o

theorem lotNs_length (l : List (Int × Int)) : (lotNs l).length = 2 * l.length := by
  induction l with
  | nil => rfl
  | cons x l ih => rw [lotNs, List.flatMap_cons, List.length_append, ← lotNs, ih]; simp; omega
theorem lotNs_snoc (l : List (Int × Int)) (x : Int × Int) : lotNs (l ++ [x]) = lotNs l ++ [x.1, x.2] := by simp [lotNs]
theorem lotsB_mem : ∀ (l : List (Int × Int)) (last : Int), -1 ≤ last → lotsB last l = true → ∀ x ∈ l, -1 ≤ x.1 ∧ x.1 < 8 ∧ -1073741824 ≤ x.2 ∧ x.2 ≤ 1073741824
  | [], _, _, _, x, hx => by cases hx
  | y :: l, last, hl, h, x, hx => by
    rw [lotsB, Bool.and_eq_true] at h
    obtain ⟨h1, h2⟩ := h
    have hb : badLot last y = false := by simpa using h1
    unfold badLot at hb
    simp only [Bool.or_eq_false_iff, decide_eq_false_iff_not] at hb
    rcases List.mem_cons.1 hx with rfl | hx
    · omega
    · exact lotsB_mem l y.1 (by omega) h2 x hx
structure OfOk (o : Of) : Prop where
  len : o.lots.length ≤ 8
  no : 0 ≤ o.no ∧ o.no ≤ 1048576
  farm : 0 ≤ o.farm ∧ o.farm < 600
  price : -1073741824 ≤ o.price ∧ o.price ≤ 1073741824
  rain : 0 ≤ o.lo ∧ o.lo ≤ o.hi ∧ o.hi ≤ 10000
  ne : o.lots.length ≠ 0
  lots : lotsB (-1) o.lots = true
theorem chkO_ok {o : Of} (h : chkO o = 0) : OfOk o := by
  unfold chkO at h
  by_cases h8 : 8 < o.lots.length
  · rw [if_pos h8] at h; omega
  rw [if_neg h8] at h
  by_cases hb : badHead o = true
  · rw [if_pos hb] at h; omega
  rw [if_neg hb] at h
  by_cases hl : lotsB (-1) o.lots = true
  · have hb' : badHead o = false := by simpa using hb
    unfold badHead at hb'
    simp only [Bool.or_eq_false_iff, decide_eq_false_iff_not] at hb'
    exact ⟨by omega, by omega, by omega, by omega, by omega, by omega, hl⟩
  · rw [if_neg hl] at h; omega
theorem ints_ok {ns : List Int} (h : ∀ n ∈ ns, -9223372036854775808 ≤ n ∧ n ≤ 9223372036854775807) : ∀ x ∈ ints ns, x.ok := by
  intro x hx
  obtain ⟨n, hn, rfl⟩ := List.mem_map.1 hx
  exact h n hn
theorem headNs_ok {o : Of} (h : OfOk o) : ∀ n ∈ headNs o, -9223372036854775808 ≤ n ∧ n ≤ 9223372036854775807 := by
  intro n hn
  simp only [headNs, List.mem_cons, List.not_mem_nil, or_false] at hn
  have := h.no; have := h.farm; have := h.price; have := h.rain
  rcases hn with rfl | rfl | rfl | rfl | rfl <;> omega
theorem lotNs_ok {o : Of} (h : OfOk o) : ∀ n ∈ lotNs o.lots, -9223372036854775808 ≤ n ∧ n ≤ 9223372036854775807 := by
  intro n hn
  obtain ⟨x, hx, hn⟩ := List.mem_flatMap.1 hn
  have := lotsB_mem o.lots (-1) (by omega) h.lots x hx
  simp only [List.mem_cons, List.not_mem_nil, or_false] at hn
  rcases hn with rfl | rfl <;> omega
theorem flat_le (B : Nat) : ∀ (l : List (List UInt8)), (∀ x ∈ l, x.length ≤ B) → l.flatten.length ≤ l.length * B
  | [], _ => by simp
  | x :: l, h => by
    have h1 := h x (by simp)
    have h2 := flat_le B l (fun y hy => h y (by simp [hy]))
    rw [List.flatten_cons, List.length_append, List.length_cons, Nat.succ_mul]; omega
theorem encIts_len (ns : List Int) : (encIts (ints ns)).length ≤ 11 + ns.length * 11 := by
  have h := flat_le 11 ((ints ns).map Enc.encIt) (fun x hx => by
    obtain ⟨y, hy, rfl⟩ := List.mem_map.1 hx
    obtain ⟨n, hn, rfl⟩ := List.mem_map.1 hy
    exact Enc.encI_length n)
  have h2 := Enc.num_length ((ints ns).map Enc.encIt).length
  rw [encIts, Enc.encL, List.length_cons, List.length_append]
  have h3 : ((ints ns).map Enc.encIt).length = ns.length := by simp [ints]
  rw [h3] at h h2 ⊢
  omega
theorem encMsg_len {o : Of} {salt : List UInt8} (h : OfOk o) (hs : salt.length = 16) : (encMsg o salt).length ≤ 2000 := by
  have h1 := encIts_len (lotNs o.lots)
  rw [lotNs_length] at h1
  have h2 := h.len
  have h3 := Enc.encT_length salt
  have h4 := Enc.num_length ((headNs o).map Enc.encI ++ [encIts (ints (lotNs o.lots)), Enc.encT salt]).length
  have a1 := Enc.encI_length o.no; have a2 := Enc.encI_length o.farm; have a3 := Enc.encI_length o.price; have a4 := Enc.encI_length o.lo; have a5 := Enc.encI_length o.hi
  rw [encMsg, Enc.encL, List.length_cons, List.length_append]
  simp only [headNs, List.map_cons, List.map_nil, List.cons_append, List.nil_append, List.flatten_cons, List.flatten_nil, List.length_append, List.length_nil] at h4 ⊢
  omega

/-! ### rows -/
def elEnc (e : El) : List Value := e.x.toList
theorem elEnc_len (e : El) : (elEnc e).length = 4 := rfl
theorem elEnc_one (e : El) : ∀ u ∈ elEnc e, u.oneCell' = true := by
  intro u hu
  simp only [elEnc, El.x, vCells, List.mem_cons, List.not_mem_nil, or_false] at hu
  rcases hu with rfl | rfl | rfl | rfl <;> rfl
theorem eltVal : EltT Tryd.prog 62 64 4 56 := ⟨rfl, _, _, rfl, rfl, by kernel_rfl, by kernel_rfl, by kernel_rfl⟩
theorem ownV_iff {w : World} {base : Nat} {v : Value} {els : List El} : OwnV w base v els ↔ OwnR w base 64 4 elEnc v els := Iff.rfl
/-- a new block that holds a row -/
theorem rowAt_block {α : Type} {enc : α → List Value} {k : Nat} {w : World} {g : Nat} {D : Array Value} {t : TypeId} {fr : Nat × Nat} {l : List α} (hk : ∀ x ∈ l, (enc x).length = k) (hD : D.toList = fl enc l) (hg : w.heap[g]? = some (.cells D t fr)) : RowAt w (some ⟨g, 0, none⟩) k enc l :=
  rowAt_of_cells hk fun j u hu => by
    rw [Nat.zero_add, cell_of_row w g j _ _ _ hg, ← Array.getElem?_toList, hD]
    exact hu
def lstEl (p : Option Addr) (n c : Nat) (xs : List Enc.It) : El := ⟨3, 0, ⟨#[]⟩, p, n, c, 1, encIts xs⟩
theorem depth0 (xs : List Enc.It) : depthEls (xs.map elIt) = 0 := by
  have := depthEls_le (xs.map elIt) 0 (fun el hel => by
    obtain ⟨x, hx, rfl⟩ := List.mem_map.1 hel
    cases x <;> exact Nat.le_refl _)
  omega
/-- a list in a row of one's own is an element -/
theorem elIn_list {w : World} {base : Nat} {p : Option Addr} {n c : Nat} {xs : List Enc.It} (ho : OwnV w base (.slice p n c) (xs.map elIt)) (hok : ∀ x ∈ xs, x.ok) (hlen : xs.length ≤ 65536) (htot : (xs.map Enc.encIt).flatten.length ≤ 268435456) : ElIn w (lstEl p n c xs) := by
  obtain ⟨p', c', hv, hels, hlow⟩ := ho.form
  injection hv with h1 h2 h3
  subst h1 h2 h3
  have hin : ∀ el ∈ xs.map elIt, ElIn w el := fun el hel => by
    obtain ⟨x, hx, rfl⟩ := List.mem_map.1 hel
    exact elIt_in w x (hok x hx)
  have hf := formedList_calls p c (xs.map elIt) w (fun el hel => ⟨(hin el hel).1, by have := (hin el hel).2.1; omega⟩) hels (by simpa using hlen)
  rw [depth0] at hf
  refine ⟨hf, by show 1 ≤ 15; omega, fun w0 base' bw bv hu hw h4 h5 h6 h7 => ⟨.inr (.inr rfl), fun v l W hb hov hl hbW => ?_⟩⟩
  have := writeList_calls w0 base' bw bv hw h4 h5 p c (xs.map elIt) 0 ⟨#[]⟩ (fun el hel => (hin el hel).2.2 w0 base' bw bv hu hw h4 h5 h6 h7) (fun hne => by
      obtain ⟨b, o, hp, hc⟩ := hels hne
      refine ⟨b, o, hp, fun i hi => ?_⟩
      have hb := (hlow b o hp).2
      have e : ∀ j, w0.cell? ⟨b, j, none⟩ = w.cell? ⟨b, j, none⟩ := fun j => hu.below.cell (p := ⟨b, j, none⟩) hb
      rw [e, e, e, e]
      exact hc i hi) (fun b o hp => Nat.lt_of_lt_of_le (hlow b o hp).2 h7) (by simpa using hlen) (by rw [encEls, els_map]; exact htot) v l W hb hov (by
        rw [els_map]; exact hl) hbW
  rw [els_map] at this
  exact this
theorem elIn_up {w w' : World} {el : El} (h : ElIn w el) (hu : Up w w') : ElIn w' el :=
  ⟨fun W h2 => h.1 W (Up.trans hu h2), h.2.1, fun w0 base bw bv h1 h2 h3 h4 h5 h6 => h.2.2 w0 base bw bv (Up.trans hu h1) h2 h3 h4 h5 (Nat.le_trans hu.size h6)⟩

end Go.Proofs.YtmifpokafaiebaaDoor

namespace Go.Proofs.YtmifpokafaiebaaDoor
open Go

section
variable {P : Program} {ops : Array Oper} {md : Region.Mode} {C : World → Prop} {Q : Exit → Act → World → Prop}

def wpAnyE (P : Program) (md : Region.Mode) (ops : Array Oper) (Q : Exit → Act → World → Prop) (S : World → Prop) (n : Nat) : Nat → Array Bool → Act → World → Prop
  | 0, listed, a, w => Region.ready md ops listed = [] ∧ Q .normal a w
  | fuel + 1, listed, a, w =>
    (Region.ready md ops listed = [] → Q .normal a w) ∧
    ∀ i ∈ Region.ready md ops listed, wpOp P ops Q i (fun a' w' => (i < n → S w') ∧ wpAnyE P md ops Q S n fuel (listed.setIfInBounds i true) a' w') a w

theorem wpAny_of_ended {S : World → Prop} {n : Nat} : ∀ (fuel : Nat) (listed : Array Bool) (a : Act) (w : World), wpAnyE P md ops Q S n fuel listed a w → wpAny P md ops Q fuel listed a w
  | 0, _, _, _, h => h
  | fuel + 1, _, _, _, h => ⟨h.1, fun i hi => wpOp_mono (fun a' w' h' => wpAny_of_ended fuel _ a' w' h'.2) (h.2 i hi)⟩

theorem mixE_first {n i : Nat} {oi : Oper} {v : Value} (hi : ops[i]? = some oi) (hsel : ∀ (j : Nat) (o : Oper) cs b, ops[j]? = some o → o.op ≠ .select cs b)
    (hQ : ∀ c a d v w, Q (.panic c) (a.put d v) w → Q (.panic c) a w) (hs : Region.sinkB md ops n = true) (hc : Region.chainB md ops n = true) (hn : n < ops.size) (hin : i < n) :
    ∀ (fuel : Nat) (listed : Array Bool) (a : Act) (w : World), HeadInv md ops n listed →
      (∀ j oj, ops[j]? = some oj → j ≠ i → listed.getD j true = false → (∀ e ∈ oj.after, Region.binds md e = true → e.on ≠ i) → oi.apart ops oj = true) →
      i ∈ Region.ready md ops listed → YieldsS P ops C oi v a → C w →
      wpAnyE P md ops Q C n fuel (listed.setIfInBounds i true) (a.put oi.dst v) w → wpAnyE P md ops Q C n (fuel + 1) listed a w
  | 0, listed, a, w, inv, _, hr, hy, hS, H => by
    refine ⟨fun h => (by rw [h] at hr; cases hr), fun j hj => ?_⟩
    by_cases hji : j = i
    · subst hji; exact hy.wpOp hi hS ⟨fun _ => hS, H⟩
    · have := ready_mono hj hji
      rw [H.1] at this
      cases this
  | fuel + 1, listed, a, w, inv, hfree, hr, hy, hS, H => by
    have hun := (mem_ready.1 hr).1
    refine ⟨fun h => (by rw [h] at hr; cases hr), fun j hj => ?_⟩
    have hjn : j < n := by
      rcases Nat.lt_or_ge j n with h | h
      · exact h
      · exact absurd hj (tail_waits hs hc hn inv _ i rfl hin hun j h)
    by_cases hji : j = i
    · subst hji; exact hy.wpOp hi hS ⟨fun _ => hS, H⟩
    · have h1 := H.2 j (ready_mono hj hji)
      obtain ⟨hjun, oj, hoj, hall⟩ := mem_ready.1 hj
      have hnot : ∀ e ∈ oj.after, Region.binds md e = true → e.on ≠ i := fun e he hb heq => by
        have h1 := hall e he hb
        have h0 := (mem_ready.1 hr).1
        rw [heq] at h1
        rcases Nat.lt_or_ge i listed.size with h' | h'
        · simp [h'] at h0 h1; rw [h0] at h1; cases h1
        · simp [Array.getElem?_eq_none h'] at h1
      have h2 := wpOp_putS hoj (hfree j oj hoj hji hjun hnot) (fun cs b => hsel i oi cs b hi) (fun cs b => hsel j oj cs b hoj) hQ hy h1
      have hfree' : ∀ k ok, ops[k]? = some ok → k ≠ i → (listed.setIfInBounds j true).getD k true = false →
          (∀ e ∈ ok.after, Region.binds md e = true → e.on ≠ i) → oi.apart ops ok = true := fun k ok hk hki hun hno => by
        refine hfree k ok hk hki ?_ hno
        by_cases hjk : j = k
        · subst hjk; exact hjun
        · rw [getD_set_ne true hjk] at hun; exact hun
      refine wpOp_mono (fun a' w' h3 => ⟨fun _ => h3.2.1 hjn, mixE_first hi hsel hQ hs hc hn hin fuel (listed.setIfInBounds j true) a' w' (inv.set hj hjn) hfree' (ready_mono hr (Ne.symm hji)) h3.1 (h3.2.1 hjn) ?_⟩) h2
      rw [Array.setIfInBounds_comm _ _ hji]
      exact h3.2.2

/-- THE CHAIN: behind each operation but the last the class is to be shown -/
def wpChainE (P : Program) (ops : Array Oper) (C : World → Prop) (Q : Exit → Act → World → Prop) : List Oper → Act → World → Prop
  | [], a, w => Q .normal a w
  | o :: rest, a, w => if Region.wanted o (yielded ops a.tmps) then o.wp P a w (fun a' w' => (rest ≠ [] → C w') ∧ wpChainE P ops C Q rest a' w') Q else (rest ≠ [] → C w) ∧ wpChainE P ops C Q rest (a.put o.dst undef) w
theorem wpChainE_step {a : Act} {w : World} {o o2 : Oper} {rest : List Oper}
    (h : ∀ K : Act → World → Prop, (∀ a' w', C w' → wpChainE P ops C Q (o2 :: rest) a' w' → K a' w') → if Region.wanted o (yielded ops a.tmps) then o.wp P a w K Q else K (a.put o.dst undef) w) : wpChainE P ops C Q (o :: o2 :: rest) a w :=
  h _ (fun _ _ h1 h2 => ⟨fun _ => h1, h2⟩)
theorem wpChainE_want {a : Act} {w : World} {o o2 : Oper} {rest : List Oper} (hw : Region.wanted o (yielded ops a.tmps) = true)
    (h : ∀ K : Act → World → Prop, (∀ a' w', C w' → wpChainE P ops C Q (o2 :: rest) a' w' → K a' w') → o.wp P a w K Q) : wpChainE P ops C Q (o :: o2 :: rest) a w :=
  wpChainE_step fun K hK => by rw [if_pos hw]; exact h K hK
theorem wpChainE_last {a : Act} {w : World} {o : Oper} (hw : Region.wanted o (yielded ops a.tmps) = true)
    (h : ∀ K : Act → World → Prop, (∀ a' w', Q .normal a' w' → K a' w') → o.wp P a w K Q) : wpChainE P ops C Q [o] a w := by
  unfold wpChainE
  rw [if_pos hw]
  exact h _ (fun a' w' h2 => ⟨fun h => absurd rfl h, h2⟩)

/-- n: the last operation -/
def Region.seqE (md : Region.Mode) (ops : Array Oper) (n : Nat) : List Nat → Array Bool → Bool
  | [], listed => (Region.ready md ops listed).isEmpty
  | k :: ks, listed => (ops[k]?).isSome && decide (Region.ready md ops listed = [k]) && (decide (k < n) || ks.isEmpty) && (!(decide (k < n)) || !ks.isEmpty) && Region.seqE md ops n ks (listed.setIfInBounds k true)
def Region.mixE (md : Region.Mode) (ops : Array Oper) (n : Nat) (ts : List Nat) : List Nat → Array Bool → Bool
  | [], listed => Region.seqE md ops n ts listed
  | k :: ks, listed => (ops[k]?).isSome && (Region.ready md ops listed).contains k && decide (k < n) && Region.free md ops listed k && Region.mixE md ops n ts ks (listed.setIfInBounds k true)

theorem wpAnyE_of_chain {l : List Oper} {n : Nat} : ∀ (ts : List Nat) (listed : Array Bool) (a : Act) (w : World), Region.seqE md l.toArray n ts listed = true → wpChainE P l.toArray C Q (pick l ts) a w → wpAnyE P md l.toArray Q C n ts.length listed a w
  | [], listed, a, w, hB, h => ⟨by simpa [Region.seqE] using hB, h⟩
  | k :: ks, listed, a, w, hB, h => by
    simp only [Region.seqE, Bool.and_eq_true, decide_eq_true_eq] at hB
    obtain ⟨⟨⟨⟨hs, hr⟩, he1⟩, he2⟩, hB'⟩ := hB
    obtain ⟨o, ho⟩ := Option.isSome_iff_exists.1 hs
    have ho' : l[k]? = some o := by simpa using ho
    simp only [pick, ho'] at h
    refine ⟨fun h0 => (by rw [hr] at h0; cases h0), fun i hi => ?_⟩
    rw [hr] at hi
    have hik : i = k := by simpa using hi
    subst hik
    have hne : i < n → pick l ks ≠ [] := fun hin => by
      cases ks with
      | nil => simp [hin] at he2
      | cons k2 ks2 =>
        simp only [Region.seqE, Bool.and_eq_true] at hB'
        obtain ⟨o2, ho2⟩ := Option.isSome_iff_exists.1 hB'.1.1.1.1
        have ho2' : l[k2]? = some o2 := by simpa using ho2
        simp only [pick, ho2']
        exact List.cons_ne_nil _ _
    have hw : wpOp P l.toArray Q i (fun a' w' => (pick l ks ≠ [] → C w') ∧ wpChainE P l.toArray C Q (pick l ks) a' w') a w := by
      unfold wpOp
      simp only [ho]
      unfold wpChainE at h
      split
      · rename_i hwt; simp only [hwt, if_true] at h; exact .inl h
      · rename_i hwt; simp only [hwt] at h; exact h
    exact wpOp_mono (fun a' w' h' => ⟨fun hin => h'.1 (hne hin), wpAnyE_of_chain ks _ a' w' hB' h'.2⟩) hw

theorem wpAnyE_of_mix {l : List Oper} {ts : List Nat} {n : Nat} {w : World} (hsel : Region.noSelect l.toArray = true) (hQ : ∀ c a d v w, Q (.panic c) (a.put d v) w → Q (.panic c) a w) (hC : C w)
    (hs : Region.sinkB md l.toArray n = true) (hc : Region.chainB md l.toArray n = true) (hn : n < l.toArray.size) :
    ∀ (hds : List Nat) (listed : Array Bool) (a : Act), HeadInv md l.toArray n listed → Region.mixE md l.toArray n ts hds listed = true →
    wpStillC P l.toArray C (fun a' => wpChainE P l.toArray C Q (pick l ts) a' w) (pick l hds) a → wpAnyE P md l.toArray Q C n (hds.length + ts.length) listed a w
  | [], listed, a, inv, hB, h => by
    rw [List.length_nil, Nat.zero_add]
    exact wpAnyE_of_chain ts listed a w hB h
  | k :: ks, listed, a, inv, hB, h => by
    simp only [Region.mixE, Bool.and_eq_true, decide_eq_true_eq] at hB
    obtain ⟨⟨⟨⟨hs', hr⟩, hkn⟩, hf⟩, hB'⟩ := hB
    obtain ⟨o, ho⟩ := Option.isSome_iff_exists.1 hs'
    have ho' : l[k]? = some o := by simpa using ho
    simp only [pick, ho'] at h
    rw [List.length_cons, show ks.length + 1 + ts.length = (ks.length + ts.length) + 1 by omega]
    unfold wpStillC at h
    have hr' : k ∈ Region.ready md l.toArray listed := by simpa using hr
    by_cases hw : Region.wanted o (yielded l.toArray a.tmps) = true
    · rw [if_pos hw] at h
      obtain ⟨v, hv, h2⟩ := h
      exact mixE_first ho (Region.noSelect_spec hsel) hQ hs hc hn hkn _ listed a w inv (Region.free_spec ho hf) hr' (.inl ⟨hw, hv⟩) hC (wpAnyE_of_mix hsel hQ hC hs hc hn ks _ _ (inv.set hr' hkn) hB' h2)
    · rw [if_neg hw] at h
      exact mixE_first ho (Region.noSelect_spec hsel) hQ hs hc hn hkn _ listed a w inv (Region.free_spec ho hf) hr' (.inr ⟨by simpa using hw, rfl⟩) hC (wpAnyE_of_mix hsel hQ hC hs hc hn ks _ _ (inv.set hr' hkn) hB' h)

/-- **THE LAW**: hds: the numbers of the still ones; ts: those of the chain, the last of them the region's last, n. -/
theorem wp_region_mixE_at {id : Nat} {a : Act} {w : World} {l : List Oper} (n : Nat) (hds ts : List Nat) (hm : P.follows .mixedOrders = true)
    (hB : (Region.noSelect l.toArray && decide (hds.length + ts.length = l.length) && decide (n < l.toArray.size) && Region.sinkB .any l.toArray n && Region.chainB .any l.toArray n && Region.mixE .any l.toArray n ts hds (Array.replicate l.length false)) = true)
    (hQ : ∀ c a d v w, Q (.panic c) (a.put d v) w → Q (.panic c) a w)
    (h : ∀ W : World, Up w W → W.heap = w.heap → ∃ C : World → Prop, C W ∧ wpStillC P l.toArray (fun w' => ∃ x : InC C, w' = x.w) (fun a' => wpChainE P l.toArray (fun w' => ∃ x : InC C, w' = x.w) Q (pick l ts) a' W) (pick l hds) a) : (Code.region id l.toArray true).wp P Q a w := by
  obtain ⟨C, hC, h2⟩ := h w.drew (Up.refl w).drew rfl
  simp only [Bool.and_eq_true, decide_eq_true_eq] at hB
  obtain ⟨⟨⟨⟨⟨hsel, hlen⟩, hn⟩, hs⟩, hc⟩, hmix⟩ := hB
  have inv0 : HeadInv .any l.toArray n (Array.replicate l.length false) :=
    ⟨by simp, fun j oj _ hl => (by rw [getD_replicate_false] at hl; cases hl), fun t _ ht => getD_in (by simpa using ht) (getD_replicate_false _ _)⟩
  have := wpAnyE_of_mix (md := .any) (C := fun w' => ∃ x : InC C, w' = x.w) hsel hQ ⟨⟨w.drew, hC⟩, rfl⟩ hs hc hn hds _ a inv0 hmix h2
  refine wp_region_any hm (wpAny_of_ended (S := fun w' => ∃ x : InC C, w' = x.w) (n := n) _ _ _ _ ?_)
  rw [hlen] at this
  simpa using this
end

end Go.Proofs.YtmifpokafaiebaaDoor

namespace Go.Proofs.YtmifpokafaiebaaDoor
open Go Go.RowKit
set_option linter.unusedVariables false
set_option maxRecDepth 100000

/-- a slice of bytes and a number come back -/
def RetD (w : World) (l : List UInt8) (err : Int) (e : Ending) (w' : World) : Prop := ∃ p c, e = .returned (.tuple #[.slice p l.length c, .int .i64 err]) ∧ SB w' p l ∧ l.length ≤ c ∧ c ≤ maxLen ∧ Up w w'
def msgL (o : Of) (salt : List UInt8) : List UInt8 := if msgE o salt = 0 then encMsg o salt else []

set_option maxHeartbeats 2000000 in
theorem omessage_bad (a : OfA) (salt : List UInt8) (sp : Option Addr) (sc : Nat) (w : World) (h : LtsAt w a) (hb : msgE a.o salt ≠ 0) : Calls Tryd.prog 12 #[.agg (ofCells a).toArray, .slice sp salt.length sc] w (RetD w [] (msgE a.o salt)) := by
  have CK := Lib.hid fun W (hu : Up w W) => ofCheck_calls a W (h.up hu)
  have hAs : Hid ((ofCells a).toArray.size = 6) := rfl
  unfold msgE at hb ⊢
  obtain ⟨ee, hee⟩ : ∃ ee, ee = chkO a.o := ⟨_, rfl⟩
  rw [← hee] at hb CK ⊢
  obtain ⟨A, hA⟩ : ∃ A, A = (ofCells a).toArray := ⟨_, rfl⟩
  rw [← hA] at CK hAs ⊢
  obtain ⟨n, hn⟩ : ∃ n, n = salt.length := ⟨_, rfl⟩
  rw [← hn] at hb ⊢
  clear hA hee hn h
  by_cases h0 : ee = 0
  case neg =>
    rw [if_neg h0]
    have d0 : (ee != 0) = true := by rw [bne_iff_ne]; exact h0
    clear hb h0
    go_enter Tryd.func12, Tryd.ntmps12
    go_wp2_with ((with_reducible show wpList _ _ _ (Oper.mk _ (Op.load _ (Operand.tmp 2)) _ _ _ _ :: _) _ _); refine wpList_named ?_; intro W1 hW1; (have u1 : Up w W1 := by (rw [hW1]; exact (Up.refl w).alloc _)); (have xa : W1.heap[w.heap.size]? = some (.cells A 26 (0, 0)) := by (rw [hW1]; exact heap_new rfl)); have U1 := Lib.hid u1; have XA := Lib.hid xa; clear u1 xa hW1; refine wpList_load_arr rfl 26 (.tmp 2) rfl w.heap.size 0 rfl A _ (rangeAt_row XA.out) rfl rfl (by rw [hAs.out]; rfl) ?_)
    refine (CK.out W1 U1.out).mono ?_
    rintro e W2 ⟨rfl, u2⟩
    have U2 : Hid (Up w W2) := Up.trans U1.out u2
    clear u2
    go_wp2_with fail
    go_ret2
    exact ⟨none, 0, rfl, fun h => absurd rfl h, Nat.le_refl _, by unfold maxLen; omega, U2.out⟩
  subst h0
  have h16 : n ≠ 16 := fun e => hb (by simp [e])
  rw [if_pos rfl, if_neg h16]
  have d1 : (((n : Nat) : Int) != 16) = true := by rw [bne_iff_ne]; omega
  clear hb h16
  go_enter Tryd.func12, Tryd.ntmps12
  go_wp2_with ((with_reducible show wpList _ _ _ (Oper.mk _ (Op.load _ (Operand.tmp 2)) _ _ _ _ :: _) _ _); refine wpList_named ?_; intro W1 hW1; (have u1 : Up w W1 := by (rw [hW1]; exact (Up.refl w).alloc _)); (have xa : W1.heap[w.heap.size]? = some (.cells A 26 (0, 0)) := by (rw [hW1]; exact heap_new rfl)); have U1 := Lib.hid u1; have XA := Lib.hid xa; clear u1 xa hW1; refine wpList_load_arr rfl 26 (.tmp 2) rfl w.heap.size 0 rfl A _ (rangeAt_row XA.out) rfl rfl (by rw [hAs.out]; rfl) ?_)
  refine (CK.out W1 U1.out).mono ?_
  rintro e W2 ⟨rfl, u2⟩
  have U2 : Hid (Up w W2) := Up.trans U1.out u2
  clear u2
  go_wp2_with fail
  go_ret2
  exact ⟨none, 0, rfl, fun h => absurd rfl h, Nat.le_refl _, by unfold maxLen; omega, U2.out⟩

set_option maxHeartbeats 8000000 in
theorem omessage_good (a : OfA) (salt : List UInt8) (sp : Option Addr) (sc : Nat) (w : World) (h : LtsAt w a) (hsb : SB w sp salt) (hb : msgE a.o salt = 0) : Calls Tryd.prog 12 #[.agg (ofCells a).toArray, .slice sp salt.length sc] w (RetD w (encMsg a.o salt) 0) := by
  have CK := Lib.hid fun W (hu : Up w W) => ofCheck_calls a W (h.up hu)
  have hc0 : chkO a.o = 0 := by
    unfold msgE at hb
    by_cases hc : chkO a.o = 0
    · exact hc
    · rw [if_neg hc] at hb; exact absurd hb hc
  have h16 : salt.length = 16 := by
    unfold msgE at hb
    rw [if_pos hc0] at hb
    by_cases hl : salt.length = 16
    · exact hl
    · rw [if_neg hl] at hb; omega
  rw [hc0] at CK
  have ok := chkO_ok hc0
  have CV := Lib.hid fun W (hu : Up w W) => run_text_of W sp sc salt (hsb.up hu)
  rw [h16] at CV ⊢
  have hes : (bsOf salt).size = 16 := by rw [bsOf_size, h16]
  have d16 : (((16 : Nat) : Int) != 16) = false := by simp
  obtain ⟨o, p, c⟩ := a
  obtain ⟨hr, hc, hcm⟩ := h
  unfold ofCells at CK ⊢
  simp only at hr hc hcm hc0 ok CK ⊢
  obtain ⟨m, hm⟩ : ∃ m, m = o.lots.length := ⟨_, rfl⟩
  have hm8 : m ≤ 8 := by rw [hm]; exact ok.len
  rw [← hm] at CK hc ⊢
  have HM := Lib.hid hm
  have HRW := Lib.hid hr
  have OK := Lib.hid ok
  have HS16 := Lib.hid h16
  have HES := Lib.hid hes
  clear hm hr hsb hb hc0 h16 hes ok
  go_enter Tryd.func12, Tryd.ntmps12
  go_wp2_with ((with_reducible show wpList _ _ _ (Oper.mk _ (Op.load _ (Operand.tmp 2)) _ _ _ _ :: _) _ _); refine wpList_named ?_; intro W1 hW1; (have u1 : Up w W1 := by (rw [hW1]; exact (Up.refl w).alloc _)); (have xa : W1.heap[w.heap.size]? = some (.cells #[.int .i64 o.no, .int .i64 o.farm, .int .i64 o.price, .int .i64 o.lo, .int .i64 o.hi, .slice p m c] 26 (0, 0)) := by (rw [hW1]; exact heap_new rfl)); have U1 := Lib.hid u1; have XA := Lib.hid xa; clear u1 xa hW1; refine wpList_load_arr rfl 26 (.tmp 2) rfl w.heap.size 0 rfl #[.int .i64 o.no, .int .i64 o.farm, .int .i64 o.price, .int .i64 o.lo, .int .i64 o.hi, .slice p m c] _ (rangeAt_row XA.out) rfl rfl (by rfl) ?_)
  refine (CK.out W1 U1.out).mono ?_
  rintro e W2 ⟨rfl, u2⟩
  have U2 : Hid (Up w W2) := Up.trans U1.out u2
  have XA2 := Lib.hid ((u2.block _ (lt_of_block XA.out)).trans XA.out)
  obtain ⟨bo, hbo⟩ : ∃ b, b = w.heap.size := ⟨_, rfl⟩
  rw [← hbo] at XA2 ⊢
  have HBO := Lib.hid hbo
  have q4 : W2.cell? ⟨bo, 5, none⟩ = some (.slice p m c) := by rw [cell_of_row W2 bo 5 _ _ _ XA2.out]; rfl
  clear u2 XA CK hbo
  go_wp2_with fail
  clear q4
  go_loopw [6, 21] (fun v6 v21 wq => ∃ i : Nat, i ≤ m ∧ v21 = .int .i64 i ∧ Hid (OwnR wq W2.heap.size 3 1 iEnc v6 (lotNs (o.lots.take i))) ∧ Hid (Up W2 wq)) (fun _ v21 _ => m - (intOf v21).toNat)
  case atStart => exact ⟨0, by omega, rfl, OwnR.nil, Up.refl _⟩
  case round =>
    obtain ⟨i, hi, rfl, HO, HU⟩ := hrel
    by_cases hlt : i < m
    case pos =>
      have hil : i < o.lots.length := by rw [← HM.out]; exact hlt
      obtain ⟨b, off, rfl, hpr⟩ := HRW.out (by rintro hh; rw [hh] at hil; simp at hil)
      have g := rangeAt_up (hpr i hil) (Up.trans U2.out HU.out)
      have hst : lotNs (o.lots.take (i + 1)) = lotNs (o.lots.take i) ++ [(o.lots[i]).1, (o.lots[i]).2] := by rw [List.take_succ_eq_append_getElem hil, lotNs_snoc]
      have hll : (lotNs (o.lots.take i)).length ≤ 100 := by rw [lotNs_length, List.length_take]; omega
      obtain ⟨x, hx⟩ : ∃ x, x = o.lots[i] := ⟨_, rfl⟩
      rw [← hx] at g hst
      have G := Lib.hid (show wr.rangeAt b (off + i * 2) (#[Value.int .i64 x.1, Value.int .i64 x.2] : Array Value).toList from g)
      have HST := Lib.hid hst
      have HLL := Lib.hid hll
      clear hx g hst hpr hil hll
      go_wp2_with (first | ((with_reducible show wpList _ _ _ (Oper.mk _ (Op.load _ (Operand.tmp 23)) _ _ _ _ :: _) _ _); refine wpList_load_arr rfl 61 (.tmp 23) rfl b (off + i * 2) rfl #[Value.int .i64 x.1, Value.int .i64 x.2] _ G.out rfl rfl (by rfl) ?_) | (refine wpList_named ?_; intro W4 hW4; at_builtin; (have hu : Up wr W4 := by (rw [hW4]; exact ((Up.refl wr).alloc _).alloc _)); (have hr2 : RowAt W4 (some ⟨wr.heap.size + 1, 0, none⟩) 1 iEnc [x.1, x.2] := rowAt_block (D := #[.int .i64 x.1, .int .i64 x.2]) (fun _ _ => rfl) rfl (by (rw [hW4]; exact heap_new (by simp)))); refine wpList_appR rfl (.tmp 25) (.tmp 30) eltInt (by omega) rfl rfl W2.heap.size _ (lotNs (o.lots.take i)) _ 2 2 [x.1, x.2] rfl rfl rfl (fun x _ => iEnc_len x) (fun x _ => iEnc_one x) (HO.out.up hu) hr2 (by (have := HLL.out; simp; omega)) (Nat.le_trans HU.out.size hu.size) ?_; intro p' m' d' w5 o5 b5 _; rw [← HST.out] at o5; have O5 := Lib.hid o5; (have U5 : Hid (Up W2 w5) := Below.trans (Up.trans HU.out hu) b5); clear o5 b5 hr2 hu hW4))
      exact ⟨⟨i + 1, by omega, by go_num, O5, U5⟩, by simp [intOf]; omega⟩
    have e : i = m := by omega
    subst e
    have hO := HO.out
    rw [HM.out, List.take_of_length_le (Nat.le_refl _)] at hO
    obtain ⟨pl, cl, hvl, h1, h2, hrl, -⟩ := hO.form (fun x _ => iEnc_len x)
    obtain ⟨m2, hm2⟩ : ∃ m2, m2 = (lotNs o.lots).length := ⟨_, rfl⟩
    rw [← hm2] at hvl
    subst hvl
    rw [← hm2] at h1
    have M2 := Lib.hid hm2
    have M16 : Hid (m2 ≤ 16) := by show m2 ≤ 16; rw [hm2, lotNs_length]; have := OK.out.len; omega
    have OL := Lib.hid hrl
    have OLC := Lib.hid h1
    have OLM := Lib.hid h2
    have hX := (HU.out.block _ (lt_of_block XA2.out)).trans XA2.out
    have q0 : wr.cell? ⟨bo, 0, none⟩ = some (.int .i64 o.no) := by rw [cell_of_row wr bo 0 _ _ _ hX]; rfl
    have q1 : wr.cell? ⟨bo, 1, none⟩ = some (.int .i64 o.farm) := by rw [cell_of_row wr bo 1 _ _ _ hX]; rfl
    have q2 : wr.cell? ⟨bo, 2, none⟩ = some (.int .i64 o.price) := by rw [cell_of_row wr bo 2 _ _ _ hX]; rfl
    have q3 : wr.cell? ⟨bo, 3, none⟩ = some (.int .i64 o.lo) := by rw [cell_of_row wr bo 3 _ _ _ hX]; rfl
    have q4 : wr.cell? ⟨bo, 4, none⟩ = some (.int .i64 o.hi) := by rw [cell_of_row wr bo 4 _ _ _ hX]; rfl
    have UR : Hid (Up w wr) := Up.trans U2.out HU.out
    clear hX hm2 hrl h1 h2 hO HO HU XA2 U1 U2 HM HRW hi hlt hm8 hc hcm
    go_wp2_with fail
    refine calls_named0 ?_
    intro W3 hW3
    have u3 : Up wr W3 := by rw [hW3]; exact (Up.refl wr).alloc _
    have r3 : RowAt W3 (some ⟨wr.heap.size, 0, none⟩) 1 iEnc (headNs o) := rowAt_block (D := #[.int .i64 o.no, .int .i64 o.farm, .int .i64 o.price, .int .i64 o.lo, .int .i64 o.hi]) (fun _ _ => rfl) rfl (by rw [hW3]; exact heap_new rfl)
    have LC := Lib.hid (olist_calls (some ⟨wr.heap.size, 0, none⟩) 5 5 (headNs o) W3 rfl (by omega) (Nat.le_refl _) (by unfold maxLen; omega) r3)
    have U3 : Hid (Up w W3) := Up.trans UR.out u3
    have OL3 : Hid (RowAt W3 pl 1 iEnc (lotNs o.lots)) := OL.out.up u3
    clear hW3 u3 r3 UR OL q0 q1 q2 q3 q4
    refine LC.out.mono ?_
    rintro e W4 ⟨sl, rfl, ow4, u4⟩
    obtain ⟨ph, ch, hsl, -, -⟩ := ow4.form
    have hsl' : sl = .slice ph 5 ch := hsl
    subst hsl'
    have U4 : Hid (Up w W4) := Up.trans U3.out u4
    have OL4 : Hid (RowAt W4 pl 1 iEnc (lotNs o.lots)) := OL3.out.up u4
    have B4 : Hid (W3.heap.size ≤ W4.heap.size) := u4.size
    have OW4 := Lib.hid ow4
    clear hsl ow4 u4 OL3 LC
    go_wp2_with fail
    refine wp_named ?_
    intro W5 hW5
    obtain ⟨bv, hbv⟩ : ∃ bv, bv = W4.heap.size := ⟨_, rfl⟩
    rw [← hbv]
    have u5 : Up W4 W5 := by rw [hW5]; exact (Up.refl W4).alloc _
    have x5 : W5.heap[bv]? = some (.cells #[.int .i64 3, .int .i64 0, .string ⟨#[]⟩, .slice ph 5 ch] 64 (0, 0)) := by rw [hW5]; exact heap_new hbv
    have U5 : Hid (Up w W5) := Up.trans U4.out u5
    have X5 := Lib.hid x5
    have OL5 : Hid (RowAt W5 pl 1 iEnc (lotNs o.lots)) := OL4.out.up u5
    have OW5 : Hid (OwnV W5 W3.heap.size (.slice ph 5 ch) ((ints (headNs o)).map elIt)) := OW4.out.up u5
    have NV : Hid (∀ g, (Value.slice ph 5 ch).ownBlock = some g → g ≠ bv) := fun g hg => by have := OW4.out.lt g hg; omega
    have B5 : Hid (W3.heap.size ≤ bv) := by show _ ≤ _; rw [hbv]; exact B4.out
    have HBV := Lib.hid hbv
    clear hW5 u5 x5 hbv U4 OL4 OW4 B4
    refine wp_region_mixE_at 10 [0, 1, 2, 4, 5, 6] [3, 7, 8, 9, 10] (by kernel_rfl) (by kernel_rfl) (fun _ _ d _ _ h => by cases d <;> exact h) ?_
    intro W U hW
    obtain ⟨C, hC⟩ : ∃ C : World → Prop, C = fun W' => Up w W' ∧ W'.heap[bv]? = some (.cells #[.int .i64 3, .int .i64 0, .string ⟨#[]⟩, .slice ph 5 ch] 64 (0, 0)) := ⟨_, rfl⟩
    have CI : Hid (∀ W', Up w W' → W'.heap[bv]? = some (.cells #[.int .i64 3, .int .i64 0, .string ⟨#[]⟩, .slice ph 5 ch] 64 (0, 0)) → C W') := fun W' h1 h2 => by rw [hC]; exact ⟨h1, h2⟩
    have CO : Hid (∀ y : InC C, Up w y.w ∧ y.w.heap[bv]? = some (.cells #[.int .i64 3, .int .i64 0, .string ⟨#[]⟩, .slice ph 5 ch] 64 (0, 0))) := fun y => Eq.mp (congrFun hC y.w) y.h
    have XW : Hid (W.heap[bv]? = some (.cells #[.int .i64 3, .int .i64 0, .string ⟨#[]⟩, .slice ph 5 ch] 64 (0, 0))) := by show _ = _; rw [hW]; exact X5.out
    have UW : Hid (Up w W) := Up.trans U5.out U
    have OWW : Hid (OwnV W W3.heap.size (.slice ph 5 ch) ((ints (headNs o)).map elIt)) := OW5.out.up U
    have OLW : Hid (RowAt W pl 1 iEnc (lotNs o.lots)) := OL5.out.up U
    have SZ : Hid (bv < W.heap.size) := lt_of_block XW.out
    have hCW := CI.out W UW.out XW.out
    refine ⟨C, hCW, ?_⟩
    haveI : Nonempty (InC C) := ⟨⟨W, hCW⟩⟩
    have k1 : ∀ y : InC C, y.w.cell? ⟨bv, 3, none⟩ = some (.slice ph 5 ch) := fun y => by rw [cell_of_row y.w bv 3 _ _ _ (CO.out y).2]; rfl
    have k2 : ∀ y : InC C, (convert 27 9 (.slice sp 16 sc)).run Tryd.prog y.w = .ok (.string (bsOf salt)) y.w := fun y => CV.out y.w (CO.out y).1
    clear hC hW U hCW X5 U5 OW5 OL5
    simp only [pick, List.getElem?_cons_zero, List.getElem?_cons_succ]
    repeat (refine wpStillC_step (fun K hK => ?_); go_simp; refine hK _ ?_; clear hK K)
    refine wpStillC_nil ?_
    clear k1 k2
    refine wpChainE_step (fun K hK => ?_)
    go_simp
    refine (olist_calls pl m2 cl (lotNs o.lots) W M2.out (by have := M16.out; omega) OLC.out OLM.out OLW.out).mono ?_
    rintro e w1 ⟨s2, rfl, o1, u1⟩
    obtain ⟨p2, c2, h2, -, -⟩ := o1.form
    obtain ⟨n2, hn2⟩ : ∃ n2, n2 = ((ints (lotNs o.lots)).map elIt).length := ⟨_, rfl⟩
    rw [← hn2] at h2
    subst h2
    have HN2 := Lib.hid hn2
    have O1 := Lib.hid o1
    have U1 : Hid (Up W w1) := u1
    refine hK _ _ (inC (CI.out w1 (Up.trans UW.out u1) ((u1.block _ SZ.out).trans XW.out))) ?_
    clear hK K o1 u1 hn2
    refine wpChainE_step (fun K hK => ?_)
    go_simp
    have ha : Up w1 (w1.alloc (Obj.cells #[.int .i64 3, .int .i64 0, .string ⟨#[]⟩, .slice p2 n2 c2, .int .i64 2, .int .i64 0, .string (bsOf salt), .slice none 0 0] 64 (0, 0))) := (Up.refl w1).alloc _
    obtain ⟨w2, hw2⟩ : ∃ w2, w2 = w1.alloc (Obj.cells #[.int .i64 3, .int .i64 0, .string ⟨#[]⟩, .slice p2 n2 c2, .int .i64 2, .int .i64 0, .string (bsOf salt), .slice none 0 0] 64 (0, 0)) := ⟨_, rfl⟩
    rw [← hw2] at ha ⊢
    have hr2 : RowAt w2 (some ⟨w1.heap.size, 0, none⟩) 4 elEnc [lstEl p2 n2 c2 (ints (lotNs o.lots)), elIt (.inr (bsOf salt))] := rowAt_block (D := #[.int .i64 3, .int .i64 0, .string ⟨#[]⟩, .slice p2 n2 c2, .int .i64 2, .int .i64 0, .string (bsOf salt), .slice none 0 0]) (fun x _ => elEnc_len x) rfl (by rw [hw2]; exact heap_new rfl)
    have U2 : Hid (Up W w2) := Up.trans U1.out ha
    have R2 := Lib.hid hr2
    have O2 := Lib.hid (O1.out.up ha)
    have HOW : Hid (OwnR w2 W3.heap.size 64 4 elEnc (.slice ph 5 ch) ((ints (headNs o)).map elIt)) := ownV_iff.1 (OWW.out.up U2.out)
    have BS : Hid (W3.heap.size ≤ w2.heap.size) := Nat.le_trans (Nat.le_of_lt (Nat.lt_of_le_of_lt B5.out SZ.out)) U2.out.size
    have LT1 : Hid (∀ g, (Value.slice p2 n2 c2).ownBlock = some g → W.heap.size ≤ g ∧ g < w2.heap.size) := fun g hg => ⟨O2.out.block g hg, O2.out.lt g hg⟩
    have LT2 : Hid (∀ g, (Value.slice ph 5 ch).ownBlock = some g → g < W.heap.size) := fun g hg => OWW.out.lt g hg
    refine hK _ _ (inC (CI.out w2 (Up.trans UW.out U2.out) ((U2.out.block _ SZ.out).trans XW.out))) ?_
    clear hK K hr2 hw2 ha U1 O1
    refine wpChainE_want rfl (fun K hK => ?_)
    refine wp_appR (.tmp 48) (.tmp 54) eltVal (by omega) rfl rfl W3.heap.size _ ((ints (headNs o)).map elIt) _ 2 2 [lstEl p2 n2 c2 (ints (lotNs o.lots)), elIt (.inr (bsOf salt))] rfl rfl rfl (fun x _ => elEnc_len x) (fun x _ => elEnc_one x) HOW.out R2.out (by simp [ints, headNs]) BS.out ?_
    intro p' m' d' w7 o7 b7 g7
    obtain ⟨L9, hL9⟩ : ∃ L, L = (ints (headNs o)).map elIt ++ [lstEl p2 n2 c2 (ints (lotNs o.lots)), elIt (.inr (bsOf salt))] := ⟨_, rfl⟩
    rw [← hL9] at o7
    have hm' : m' = 7 := by
      obtain ⟨p0, c0, e0, -⟩ := o7.form (fun x _ => elEnc_len x)
      injection e0 with _ e1 _
      rw [e1, hL9]; rfl
    subst hm'
    have hne : ∀ g, (Value.slice ph 5 ch).ownBlock = some g → g ≠ bv := NV.out
    have x7 : w7.heap[bv]? = some (.cells #[.int .i64 3, .int .i64 0, .string ⟨#[]⟩, .slice ph 5 ch] 64 (0, 0)) :=
      (g7.grown.block bv (Nat.lt_of_lt_of_le SZ.out U2.out.size) (fun e => hne bv e.symm rfl)).trans ((U2.out.block _ SZ.out).trans XW.out)
    have n7 : ∀ g, (Value.slice p' 7 d').ownBlock = some g → g ≠ bv := fun g hg => by
      rcases g7.own g hg with h | h
      · exact hne g h
      · have := U2.out.size; have := SZ.out; omega
    have u7 : Up w w7 := Below.trans (Up.trans UW.out U2.out) (b7.mono U3.out.size)
    have ol7 : OwnV w7 W.heap.size (.slice p2 n2 c2) ((ints (lotNs o.lots)).map elIt) := O2.out.kept fun g hg => g7.grown.block g (LT1.out g hg).2 (fun e => by have := LT2.out g e.symm; have := (LT1.out g hg).1; omega)
    have HL9 := Lib.hid hL9
    have O7 := Lib.hid o7
    have X7 := Lib.hid x7
    have N7 := Lib.hid n7
    have U7 := Lib.hid u7
    have OL7 := Lib.hid ol7
    refine hK _ _ (inC (CI.out w7 u7 x7)) ?_
    clear hK K o7 b7 g7 hL9 x7 n7 u7 ol7 hne HOW R2 O2 BS
    refine wpChainE_step (fun K hK => ?_)
    go_simp
    refine hK _ _ (inC (CI.out w7 U7.out X7.out)) ?_
    clear hK K
    have f1 : w7.cell? ⟨bv, 3, none⟩ = some (.slice ph 5 ch) := by rw [cell_of_row w7 bv 3 _ _ _ X7.out]; rfl
    have f2 : w7.frozen? ⟨bv, 3, none⟩ = false := free_row X7.out 3
    refine wpChainE_last rfl (fun K hK => ?_)
    go_simp
    refine hK _ _ ?_
    clear hK K
    obtain ⟨W9, hW9⟩ : ∃ W9, W9 = w7.setCell ⟨bv, 3, none⟩ (.slice p' 7 d') := ⟨_, rfl⟩
    rw [← hW9]
    have x9 : W9.heap[bv]? = some (.cells #[.int .i64 3, .int .i64 0, .string ⟨#[]⟩, .slice p' 7 d'] 64 (0, 0)) := by rw [hW9, heap_setCell_same w7 bv 3 _ _ _ X7.out]; rfl
    have o9 : OwnV W9 W3.heap.size (.slice p' 7 d') L9 := ownV_iff.2 (O7.out.kept fun g hg => by rw [hW9]; exact heap_setCell_other _ _ _ _ (N7.out g hg))
    have ol9 : OwnV W9 W.heap.size (.slice p2 n2 c2) ((ints (lotNs o.lots)).map elIt) := OL7.out.kept fun g hg => by rw [hW9]; exact heap_setCell_other _ _ _ _ (by show g ≠ bv; have := (LT1.out g hg).1; have := SZ.out; omega)
    have u9 : Up w W9 := by
      have a := U7.out
      have hb : w.heap.size ≤ bv := Nat.le_trans U3.out.size B5.out
      rw [hW9]
      exact ⟨a.os, a.tape, a.output, by simpa [World.setCell] using a.size, fun j hj => (heap_setCell_other _ _ _ _ (by show j ≠ bv; omega)).trans (a.block j hj)⟩
    have hE : Calls Tryd.prog 29 #[.agg #[.int .i64 3, .int .i64 0, .string ⟨#[]⟩, .slice p' 7 d']] W9 (RetD w (encMsg o salt) 0) := by
      obtain ⟨p0, c0, e0, hels, hlow⟩ := o9.form
      injection e0 with e1 e2 e3
      subst e1 e3
      have hok := OK.out
      have hl : L9.length = 7 := by rw [HL9.out]; rfl
      have hcl := encIts_len (lotNs o.lots)
      have hll := lotNs_length o.lots
      have h8 := hok.len
      have he9 : L9.map El.e = (headNs o).map Enc.encI ++ [encIts (ints (lotNs o.lots)), Enc.encT salt] := by
        rw [HL9.out, List.map_append, els_map, ints, List.map_map]
        have : elIt (.inr (bsOf salt)) = ⟨2, 0, bsOf salt, none, 0, 0, 0, Enc.encT salt⟩ := by simp [elIt, bsOf]
        rw [this]; rfl
      have hcode : Enc.encL (L9.map El.e) = encMsg o salt := by rw [he9]; rfl
      have hml := encMsg_len hok HS16.out
      have := encode_calls p' d' L9 W9 (fun el hel => by
        rw [HL9.out] at hel
        rcases List.mem_append.1 hel with hel | hel
        · obtain ⟨x, hx, rfl⟩ := List.mem_map.1 hel
          exact elIt_in W9 x (ints_ok (headNs_ok hok) x hx)
        · simp only [List.mem_cons, List.not_mem_nil, or_false] at hel
          rcases hel with rfl | rfl
          · exact elIn_list (n := n2) (base := W.heap.size) ol9 (ints_ok (lotNs_ok hok)) (by simp [ints]; omega) (by
              rw [encIts, Enc.encL, List.length_cons, List.length_append] at hcl; omega)
          · exact elIt_in W9 (.inr (bsOf salt)) (by show (bsOf salt).size ≤ 1048576; rw [HES.out]; omega)) hels (fun b o hp => (hlow b o hp).2) (by omega) (by
          have : (encEls L9).length ≤ (encMsg o salt).length := by rw [← hcode, encEls, Enc.encL, List.length_cons, List.length_append]; omega
          omega)
      rw [hcode] at this
      rw [hl] at this
      refine this.mono ?_
      rintro e w10 ⟨v, rfl, ov, uv⟩
      obtain ⟨pv, cv, rfl, g1, g2, g3⟩ := ov.form
      exact ⟨pv, cv, rfl, g3, g1, g2, Up.trans u9 uv⟩
    have HE := Lib.hid hE
    have X9 := Lib.hid x9
    clear hE x9 o9 ol9 u9 hW9 f1 f2 O7 X7 N7 U7 OL7 HL9 LT1 LT2 U2 XW UW OWW OLW SZ B5 NV U3
    go_wp2_with ((with_reducible show wpList _ _ _ (Oper.mk _ (Op.load _ (Operand.tmp 9)) _ _ _ _ :: _) _ _); refine wpList_load_arr rfl 64 (.tmp 9) rfl bv 0 rfl #[.int .i64 3, .int .i64 0, .string ⟨#[]⟩, .slice p' 7 d'] _ (rangeAt_row X9.out) rfl rfl (by rfl) ?_)
    refine HE.out.mono ?_
    rintro e w10 ⟨pv, cv, rfl, g3, g1, g2, u10⟩
    have G1 := Lib.hid g1
    have G2 := Lib.hid g2
    have G3 := Lib.hid g3
    have U10 := Lib.hid u10
    clear g1 g2 g3 u10 HE X9
    go_wp2_with fail
    go_ret2
    exact ⟨pv, cv, rfl, G3.out, G1.out, G2.out, U10.out⟩

theorem omessage_calls (a : OfA) (salt : List UInt8) (sp : Option Addr) (sc : Nat) (w : World) (h : LtsAt w a) (hsb : SB w sp salt) : Calls Tryd.prog 12 #[.agg (ofCells a).toArray, .slice sp salt.length sc] w (RetD w (msgL a.o salt) (msgE a.o salt)) := by
  unfold msgL
  by_cases hb : msgE a.o salt = 0
  · rw [if_pos hb, hb]; exact omessage_good a salt sp sc w h hsb hb
  · rw [if_neg hb]; exact omessage_bad a salt sp sc w h hb

end Go.Proofs.YtmifpokafaiebaaDoor

namespace Go.Proofs.YtmifpokafaiebaaDoor
open Go Go.RowKit
set_option linter.unusedVariables false
set_option maxRecDepth 100000

/-- the tag -/
def ofTag : ByteArray := ⟨#[111, 102, 102, 101, 114]⟩
def cmtB (o : Of) (salt : List UInt8) : List UInt8 := Sha.tagged ofTag.data.toList (encMsg o salt)
def cmtL (o : Of) (salt : List UInt8) : List UInt8 := if msgE o salt = 0 then cmtB o salt else []
theorem cmtB_length (o : Of) (salt : List UInt8) : (cmtB o salt).length = 32 := Sha.tagged_length _ _
theorem msgE_ok {o : Of} {salt : List UInt8} (h : msgE o salt = 0) : OfOk o ∧ salt.length = 16 := by
  unfold msgE at h
  by_cases hc : chkO o = 0
  · rw [if_pos hc] at h
    refine ⟨chkO_ok hc, ?_⟩
    by_cases hl : salt.length = 16
    · exact hl
    · rw [if_neg hl] at h; omega
  · rw [if_neg hc] at h; exact absurd h hc

theorem cell_u8s {w : World} {b : Nat} {l : List UInt8} {t : TypeId} (h : w.heap[b]? = some (.cells (u8s l).toArray t (0, 0))) {i : Nat} (hi : i < l.length) : w.cell? ⟨b, i, none⟩ = some (.int .u8 ((l.getD i 0).toNat : Nat)) := by
  rw [cell_of_row w b i _ t _ h, List.getElem?_toArray]
  simp [u8s, hi]

set_option maxHeartbeats 2000000 in
theorem ocommit_calls (a : OfA) (salt : List UInt8) (sp : Option Addr) (sc : Nat) (w : World) (h : LtsAt w a) (hsb : SB w sp salt) (ht : Tabs w) :
    Calls Tryd.prog 14 #[.agg (ofCells a).toArray, .slice sp salt.length sc] w (RetD w (cmtL a.o salt) (msgE a.o salt)) := by
  have MS := Lib.hid fun W (hu : Up w W) => omessage_calls a salt sp sc W (h.up hu) (hsb.up hu)
  have hAs : Hid ((ofCells a).toArray.size = 6) := rfl
  have HT := Lib.hid ht
  have HOK : Hid (msgE a.o salt = 0 → (msgL a.o salt).length ≤ 2000) := fun hm => by
    have := msgE_ok hm
    rw [msgL, if_pos hm]; exact encMsg_len this.1 this.2
  have HCM : Hid (msgE a.o salt = 0 → cmtL a.o salt = Sha.tagged ofTag.data.toList (msgL a.o salt)) := fun hm => by
    rw [cmtL, if_pos hm, msgL, if_pos hm]; rfl
  have HCN : Hid (msgE a.o salt ≠ 0 → cmtL a.o salt = []) := fun hm => by rw [cmtL, if_neg hm]
  obtain ⟨CM, hCM⟩ : ∃ CM, CM = cmtL a.o salt := ⟨_, rfl⟩
  rw [← hCM] at HCM HCN ⊢
  obtain ⟨ee, hee⟩ : ∃ ee, ee = msgE a.o salt := ⟨_, rfl⟩
  rw [← hee] at MS HOK HCM HCN ⊢
  obtain ⟨M, hM⟩ : ∃ M, M = msgL a.o salt := ⟨_, rfl⟩
  rw [← hM] at MS HOK HCM
  obtain ⟨A, hA⟩ : ∃ A, A = (ofCells a).toArray := ⟨_, rfl⟩
  rw [← hA] at MS hAs ⊢
  obtain ⟨n, hn⟩ : ∃ n, n = salt.length := ⟨_, rfl⟩
  rw [← hn] at MS ⊢
  obtain ⟨mn, hmn⟩ : ∃ mn, mn = M.length := ⟨_, rfl⟩
  have HMN := Lib.hid hmn
  clear hA hee hn h hsb ht hM hmn hCM
  go_enter Tryd.func14, Tryd.ntmps14
  go_wp2_with ((with_reducible show wpList _ _ _ (Oper.mk _ (Op.load _ (Operand.tmp 2)) _ _ _ _ :: _) _ _); refine wpList_named ?_; intro W1 hW1; (have u1 : Up w W1 := by (rw [hW1]; exact (Up.refl w).alloc _)); (have xa : W1.heap[w.heap.size]? = some (.cells A 26 (0, 0)) := by (rw [hW1]; exact heap_new rfl)); have U1 := Lib.hid u1; have XA := Lib.hid xa; clear u1 xa hW1; refine wpList_load_arr rfl 26 (.tmp 2) rfl w.heap.size 0 rfl A _ (rangeAt_row XA.out) rfl rfl (by rw [hAs.out]; rfl) ?_)
  refine (MS.out W1 U1.out).mono ?_
  rintro e W2 ⟨pm, cm, rfl, sbm, hc1, hc2, u2⟩
  rw [← HMN.out] at hc1
  rw [← HMN.out]
  have U2 : Hid (Up w W2) := Up.trans U1.out u2
  have SBM := Lib.hid sbm
  have HC1 := Lib.hid hc1
  have HC2 := Lib.hid hc2
  clear u2 sbm hc1 hc2 MS XA U1 hAs
  by_cases h0 : ee = 0
  case neg =>
    have d0 : (ee != 0) = true := by rw [bne_iff_ne]; exact h0
    have eCM := HCN.out h0
    subst eCM
    clear h0
    go_wp2_with fail
    go_ret2
    exact ⟨none, 0, rfl, fun h => absurd rfl h, Nat.le_refl _, by unfold maxLen; omega, U2.out⟩
  subst h0
  have d0 : ((0 : Int) != 0) = false := by simp
  have hcm := HCM.out rfl
  have hTG := tagged_calls ofTag pm cm M W2 (by decide) (HOK.out rfl) (by rw [← HMN.out]; exact HC1.out) HC2.out SBM.out (HT.out.up U2.out).1 (HT.out.up U2.out).2
  obtain ⟨D, hD⟩ : ∃ D, D = Sha.tagged ofTag.data.toList M := ⟨_, rfl⟩
  have hDl : D.length = 32 := by rw [hD, Sha.tagged_length]
  rw [← hD] at hTG hcm
  have hcm2 := hcm.symm
  subst hcm2
  obtain ⟨E, hE⟩ : ∃ E, E = (u8s D).toArray := ⟨_, rfl⟩
  rw [← hE] at hTG
  rw [← HMN.out] at hTG
  have hEs : E.size = 32 := by rw [hE, List.size_toArray, u8s_length, hDl]
  have hEc : E.all (·.oneCell') = true := by
    rw [hE, Array.all_eq_true_iff_forall_mem]
    intro v hv
    exact u8s_one _ v (by simpa using hv)
  have HE := Lib.hid hE
  have HEs := Lib.hid hEs
  have HEc := Lib.hid hEc
  have HDL := Lib.hid hDl
  have TG := Lib.hid hTG
  clear hD hDl hTG hE hEs hEc HCM HCN HOK SBM HC1 HC2 HT HMN
  go_wp2_with fail
  refine TG.out.mono ?_
  rintro e w1 ⟨rfl, u1⟩
  have UX : Hid (Up w w1) := Up.trans U2.out u1
  clear u1 TG
  obtain ⟨bd, hbd⟩ : ∃ bd, bd = w1.heap.size := ⟨_, rfl⟩
  have HBD := Lib.hid hbd
  go_wp2_with (refine wpList_store_row rfl 47 (.tmp 7) (.tmp 18) rfl _ E rfl rfl 47 _ (heap_new rfl) (by rw [HEs.out]; rfl) (by rw [HEs.out]; rfl) HEc.out ?_; refine wpList_named ?_; intro W3 hW3; rw [← hbd]; have h3 : W3.heap[bd]? = some (.cells (u8s D).toArray 47 (0, 0)) := (by rw [hW3, hbd, ← HE.out]; exact setRow_heap _ _ _ _ _ _ (heap_new rfl)); have u3 : Up w1 W3 := (by rw [hW3]; exact below_setRow ((Up.refl w1).alloc _) (Nat.le_refl _) _); have H3 := Lib.hid h3; have U3 := Lib.hid u3; clear h3 u3 hW3 hbd)
  go_ret2
  refine ⟨some ⟨bd, 0, none⟩, 32, by rw [HDL.out] <;> rfl, ?_, by rw [HDL.out]; exact Nat.le_refl _, by unfold maxLen; omega, Up.trans UX.out U3.out⟩
  intro _
  refine ⟨bd, 0, rfl, fun i hi => ?_⟩
  rw [Nat.zero_add]
  have := cell_u8s H3.out hi
  rw [List.getD_eq_getElem?_getD, List.getElem?_eq_getElem hi] at this
  exact this

end Go.Proofs.YtmifpokafaiebaaDoor
