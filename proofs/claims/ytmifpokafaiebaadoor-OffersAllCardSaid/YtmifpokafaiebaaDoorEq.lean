/- EQUALITY OF DIGESTS (arrays of 32 bytes). -/
import Derived.Test.YtmifpokafaiebaaDoorOwn
import Derived.ChangeKeysEq
import Derived.Laws.StructEq
namespace Go.Proofs.YtmifpokafaiebaaDoor
open Go.RowKit
set_option linter.unusedVariables false
set_option maxRecDepth 100000

theorem run_part_cell {P : Program} (w : World) (t : TypeId) (cs : Array Value) (off : Nat) (v : Value) (hagg : (isAgg t).run P w = .ok false w) (h : cs[off]? = some v) : (part t cs off).run P w = .ok v w := by
  unfold part
  simp [Sem.run_bind, hagg, h]

theorem u8s_get (xs : List UInt8) (i : Nat) (h : i < xs.length) : (u8s xs).toArray[i]? = some (.int .u8 ((xs.getD i 0).toNat : Nat)) := by
  simp [u8s, h]

theorem eqItems_u8 (d : Nat) (xs ys : List UInt8) (w : World) : ∀ is : List Nat, (∀ i ∈ is, i < xs.length ∧ i < ys.length) →
    (Op.eqItems (d + 1) 5 1 (u8s xs).toArray (u8s ys).toArray is).run Tryd.prog w = .ok (is.all fun i => xs.getD i 0 == ys.getD i 0) w
  | [], _ => by simp [Op.eqItems]
  | i :: is, h => by
    have hi := h i (by simp)
    have ih := eqItems_u8 d xs ys w is (fun j hj => h j (by simp [hj]))
    have hagg : (isAgg 5).run Tryd.prog w = .ok false w := by kernel_rfl
    have p1 := run_part_cell (P := Tryd.prog) w 5 (u8s xs).toArray (i * 1) _ hagg (by rw [Nat.mul_one]; exact u8s_get xs i hi.1)
    have p2 := run_part_cell (P := Tryd.prog) w 5 (u8s ys).toArray (i * 1) _ hagg (by rw [Nat.mul_one]; exact u8s_get ys i hi.2)
    have p3 := run_equalIn_int (P := Tryd.prog) w d 5 .u8 .u8 ((xs.getD i 0).toNat : Nat) ((ys.getD i 0).toNat : Nat) rfl
    have e : (((xs.getD i 0).toNat : Int) == ((ys.getD i 0).toNat : Int)) = (xs.getD i 0 == ys.getD i 0) := by
      rw [Bool.eq_iff_iff]; simp only [beq_iff_eq]
      exact ⟨fun h => UInt8.toNat_inj.1 (by omega), fun h => by rw [h]⟩
    rw [e] at p3
    simp only [Op.eqItems, Sem.run_bind, p1, p2, p3, Result.andThen_ok, List.all_cons]
    cases hb : (xs.getD i 0 == ys.getD i 0)
    · simp
    · simpa using ih

theorem all_range_eq (xs ys : List UInt8) (n : Nat) (hx : xs.length = n) (hy : ys.length = n) : ((List.range n).all fun i => xs.getD i 0 == ys.getD i 0) = decide (xs = ys) := by
  rw [Bool.eq_iff_iff]
  simp only [List.all_eq_true, List.mem_range, beq_iff_eq, decide_eq_true_eq]
  constructor
  · intro h
    refine List.ext_getElem (by omega) fun i h1 h2 => ?_
    have := h i (by omega)
    simpa [h1, h2] using this
  · rintro rfl i _; rfl

theorem run_equalIn_digest (d : Nat) (xs ys : List UInt8) (w : World) (hx : xs.length = 32) (hy : ys.length = 32) :
    (Op.equalIn (d + 1 + 1) 47 (.agg (u8s xs).toArray) (.agg (u8s ys).toArray)).run Tryd.prog w = .ok (decide (xs = ys)) w := by
  obtain ⟨i, hi⟩ : ∃ i, Tryd.prog.info? 5 = some i := ⟨_, rfl⟩
  rw [run_equalIn_array w (d + 1) (u8s xs).toArray (u8s ys).toArray (t := 47) (e := 5) (n := 32) rfl hi]
  rw [show Tryd.prog.cellsOf 5 = 1 by kernel_rfl, eqItems_u8 d xs ys w _ (fun j hj => by have := List.mem_range.1 hj; omega), all_range_eq xs ys 32 hx hy]

theorem run_eql_digest (xs ys : List UInt8) (w : World) (hx : xs.length = 32) (hy : ys.length = 32) :
    (binOp .eql 47 (.agg (u8s xs).toArray) (.agg (u8s ys).toArray)).run Tryd.prog w = .ok (.bool (decide (xs = ys))) w := by
  rw [run_eql_struct]
  rw [run_equalIn_digest 9998 xs ys w hx hy]; rfl
theorem run_neq_digest (xs ys : List UInt8) (w : World) (hx : xs.length = 32) (hy : ys.length = 32) :
    (binOp .neq 47 (.agg (u8s xs).toArray) (.agg (u8s ys).toArray)).run Tryd.prog w = .ok (.bool (!decide (xs = ys))) w := by
  rw [run_neq_struct]
  rw [run_equalIn_digest 9998 xs ys w hx hy]; rfl

end Go.Proofs.YtmifpokafaiebaaDoor
