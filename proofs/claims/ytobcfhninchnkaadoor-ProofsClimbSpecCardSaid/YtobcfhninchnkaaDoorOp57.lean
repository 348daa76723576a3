/- ARGUMENTS THAT ARE SHARES AND SUMS: opened. -/
import Derived.Test.YtobcfhninchnkaaDoorLwA
import Derived.WalkKit
import Derived.ProofKit
import Derived.OpenShut
import Derived.ShutString
import Derived.ChangeOld
import Derived.ChangeMaps5
import Derived.Below
import Derived.Carry
import Derived.Deep.Slices
namespace Go.Proofs.YtobcfhninchnkaaDoor
open Go.ChangeShapes Go.WideShapes Go.ChangeAt Go.RowKit
open Go.Deep (open_slice)
set_option linter.unusedVariables false
set_option maxRecDepth 100000

section
variable {H : Type} {enc : TypeId × Value → H} {W : World} {base : Nat} {spare : Nat → Bool} {held : Bool}

theorem take1 {cs : List Value} {i : Nat} {v : Value} (h : (cs.drop i).take 1 = [v]) : cs[i]? = some v := by
  have : ((cs.drop i).take 1)[0]? = some v := by rw [h]; rfl
  simpa using this

theorem open_sh {fuel : Nat} {cs : List Value} {x : DataW H × List MemPlace} (hf : DataW.trod enc Tryd.prog W base spare held fuel 38 cs = some x) : ∃ s : Sh, s.wf ∧ cs = (shCells s).toList := by
  obtain ⟨xs, n, _, _, hlen, hxs, hg⟩ := DataW.trod_struct Tryd.underlying38 hf
  have hl5 : cs.length = 5 := hlen
  have hx5 : xs.length = 5 := hxs
  have hx : ∀ i (h : i < 5), xs[i]? = some (xs[i]'(by omega)) := fun i h => List.getElem?_eq_getElem (by omega)
  obtain ⟨n0, c0, _, w0⟩ := DataW.trod_int Tryd.underlying3 ((hg 0 _ rfl).trans (hx 0 (by omega)))
  have d0 : cs[0]? = some (.int .i64 n0) := take1 c0
  have b0 := bounds_i64 w0
  obtain ⟨n1, c1, _, w1⟩ := DataW.trod_int Tryd.underlying3 ((hg 1 _ rfl).trans (hx 1 (by omega)))
  have d1 : cs[1]? = some (.int .i64 n1) := take1 c1
  have b1 := bounds_i64 w1
  obtain ⟨n2, c2, _, w2⟩ := DataW.trod_int Tryd.underlying3 ((hg 2 _ rfl).trans (hx 2 (by omega)))
  have d2 : cs[2]? = some (.int .i64 n2) := take1 c2
  have b2 := bounds_i64 w2
  obtain ⟨n3, c3, _, w3⟩ := DataW.trod_int Tryd.underlying3 ((hg 3 _ rfl).trans (hx 3 (by omega)))
  have d3 : cs[3]? = some (.int .i64 n3) := take1 c3
  have b3 := bounds_i64 w3
  obtain ⟨n4, c4, _, w4⟩ := DataW.trod_int Tryd.underlying3 ((hg 4 _ rfl).trans (hx 4 (by omega)))
  have d4 : cs[4]? = some (.int .i64 n4) := take1 c4
  have b4 := bounds_i64 w4
  refine ⟨⟨n0, n1, n2, n3, n4⟩, ⟨⟨b0.1, b0.2⟩, ⟨b1.1, b1.2⟩, ⟨b2.1, b2.2⟩, ⟨b3.1, b3.2⟩, ⟨b4.1, b4.2⟩⟩, ?_⟩
  refine List.ext_getElem? fun j => ?_
  rcases Nat.lt_or_ge j 5 with hj | hj
  · have : j = 0 ∨ j = 1 ∨ j = 2 ∨ j = 3 ∨ j = 4 := by omega
    rcases this with rfl | rfl | rfl | rfl | rfl
    · rw [d0]; rfl
    · rw [d1]; rfl
    · rw [d2]; rfl
    · rw [d3]; rfl
    · rw [d4]; rfl
  · rw [List.getElem?_eq_none (by omega), List.getElem?_eq_none (by simp [shCells]; omega)]

theorem open_sm {fuel : Nat} {cs : List Value} {x : DataW H × List MemPlace} (hf : DataW.trod enc Tryd.prog W base spare held fuel 28 cs = some x) : ∃ s : Sm, s.wf ∧ cs = smCells s := by
  obtain ⟨xs, n, _, _, hlen, hxs, hg⟩ := DataW.trod_struct Tryd.underlying28 hf
  have hl35 : cs.length = 35 := hlen
  have hx4 : xs.length = 4 := hxs
  have hx : ∀ i (h : i < 4), xs[i]? = some (xs[i]'(by omega)) := fun i h => List.getElem?_eq_getElem (by omega)
  obtain ⟨ys, m, _, _, _, hyl, hy⟩ := DataW.trod_array Tryd.underlying26 ((hg 0 _ rfl).trans (hx 0 (by omega)))
  obtain ⟨n1, c1, _, w1⟩ := DataW.trod_int Tryd.underlying3 ((hg 1 _ rfl).trans (hx 1 (by omega)))
  have d1 : cs[32]? = some (.int .i64 n1) := take1 c1
  have b1 := bounds_i64 w1
  obtain ⟨n2, c2, _, w2⟩ := DataW.trod_int Tryd.underlying3 ((hg 2 _ rfl).trans (hx 2 (by omega)))
  have d2 : cs[33]? = some (.int .i64 n2) := take1 c2
  have b2 := bounds_i64 w2
  obtain ⟨n3, c3, _, w3⟩ := DataW.trod_int Tryd.underlying3 ((hg 3 _ rfl).trans (hx 3 (by omega)))
  have d3 : cs[34]? = some (.int .i64 n3) := take1 c3
  have b3 := bounds_i64 w3
  have d2' : ∀ i, i < 32 → ∃ z : Nat, z < 256 ∧ cs[i]? = some (.int .u8 z) := fun i hi => by
    have h := (hy i hi).trans (List.getElem?_eq_getElem (show i < ys.length by rw [hyl]; exact hi))
    obtain ⟨z, cz, _, wz⟩ := DataW.trod_int Tryd.underlying5 h
    have hb := bounds_u8 wz
    have h1 := take1 cz
    rw [show i * Tryd.prog.cellsOf 5 = i by rw [show Tryd.prog.cellsOf 5 = 1 by kernel_rfl, Nat.mul_one]] at h1
    have h2 : (((cs.drop 0).take 32))[i]? = cs[i]? := by
      rw [List.getElem?_take_of_lt hi, List.drop_zero]
    refine ⟨z.toNat, by omega, ?_⟩
    rw [← h2, show ((z.toNat : Nat) : Int) = z by omega]
    exact h1
  obtain ⟨f, hf2⟩ : ∃ f : Nat → Nat, ∀ i, i < 32 → f i < 256 ∧ cs[i]? = some (.int .u8 (f i : Nat)) := by
    refine ⟨fun i => if h : i < 32 then Classical.choose (d2' i h) else 0, fun i hi => ?_⟩
    simp only [hi, dif_pos]
    exact Classical.choose_spec (d2' i hi)
  have hpl : ((List.range 32).map fun i => UInt8.ofNat (f i)).length = 32 := by simp
  refine ⟨⟨(List.range 32).map fun i => UInt8.ofNat (f i), n1, n2, n3⟩, ⟨hpl, ⟨b1.1, b1.2⟩, ⟨b2.1, b2.2⟩, ⟨b3.1, b3.2⟩⟩, ?_⟩
  refine List.ext_getElem? fun j => ?_
  rcases Nat.lt_or_ge j 35 with hj | hj
  · rcases Nat.lt_or_ge j 32 with h3 | h3
    · rw [(hf2 j h3).2]
      simp only [smCells]
      rw [List.getElem?_append_left (by rw [u8s_length, hpl]; exact h3)]
      simp [u8s, h3, UInt8.toNat_ofNat', Nat.mod_eq_of_lt (hf2 j h3).1]
    · simp only [smCells]
      rw [List.getElem?_append_right (by rw [u8s_length, hpl]; exact h3), u8s_length, hpl]
      have : j = 32 ∨ j = 33 ∨ j = 34 := by omega
      rcases this with rfl | rfl | rfl
      · rw [d1]; rfl
      · rw [d2]; rfl
      · rw [d3]; rfl
  · rw [List.getElem?_eq_none (by omega), List.getElem?_eq_none (by rw [smCells_len hpl]; omega)]

theorem open_shares {p : List MemPlace} {d : DataW H} {v : Value} {fuel : Nat} (hf : DataW.trod enc Tryd.prog W base spare held fuel 22 [v] = some (d, p)) : ∃ a n c, ∃ ls : List Sh, v = .slice a n c ∧ n = ls.length ∧ (∀ x ∈ ls, x.wf) ∧ RowAt W a 5 (fun x : Sh => (shCells x).toList) ls ∧ n ≤ c ∧ c ≤ maxLen := by
  rcases open_slice Tryd.underlying22 hf with ⟨hcs, _⟩ | ⟨a, len, cap, m, k, D, Pl, hcs, _, hl, hm, hmm, _, hi⟩
  · obtain rfl := (List.cons.inj hcs).1
    exact ⟨none, 0, 0, [], rfl, rfl, fun x hx => (by simp at hx), RowAt.nil _ _, Nat.le_refl _, by unfold maxLen; omega⟩
  · obtain rfl := (List.cons.inj hcs).1
    have hlm : len ≤ m := by rw [hmm]; split <;> omega
    rw [show Tryd.prog.cellsOf 38 = 5 by kernel_rfl] at hi
    have key : ∀ i, i < len → ∃ x : Sh, x.wf ∧ ∀ j u, ((fun x : Sh => (shCells x).toList) x)[j]? = some u → W.cell? ((a.add (i * 5)).add j) = some u := fun i hi2 => by
      obtain ⟨cs', hc, ht⟩ := hi i (by omega)
      obtain ⟨x, h1, rfl⟩ := open_sh ht
      obtain ⟨_, hcl, hat⟩ := World.cells?_some hc
      refine ⟨x, h1, fun j u hu => ?_⟩
      have hj : j < 5 := by rw [← hcl]; exact (List.getElem?_eq_some_iff.1 hu).1
      have := hat j hj
      rw [this]; exact hu
    obtain ⟨f, hf3⟩ : ∃ f : Nat → Sh, ∀ i, i < len → (f i).wf ∧ ∀ j u, ((fun x : Sh => (shCells x).toList) (f i))[j]? = some u → W.cell? ((a.add (i * 5)).add j) = some u := by
      refine ⟨fun i => if h : i < len then Classical.choose (key i h) else ⟨0, 0, 0, 0, 0⟩, fun i hi2 => ?_⟩
      simp only [hi2, dif_pos]
      exact Classical.choose_spec (key i hi2)
    refine ⟨some a, len, cap, (List.range len).map f, rfl, by simp, ?_, fun hne => ?_, hl, hm⟩
    · intro x hx
      obtain ⟨i, hi3, rfl⟩ := List.mem_map.1 hx
      exact (hf3 i (List.mem_range.1 hi3)).1
    · have h0 : 0 < len := by
        rcases Nat.eq_zero_or_pos len with e | e
        · subst e; simp at hne
        · exact e
      obtain ⟨b, off, spot⟩ := a
      have hsp := (hf3 0 h0).2 0 _ (List.getElem?_eq_getElem (by simp [shCells]))
      have hspot : spot = none := by simpa [Addr.add] using World.cell?_spot hsp
      subst hspot
      refine ⟨b, off, rfl, fun i hi4 => ?_⟩
      have hi5 : i < len := by simpa using hi4
      rw [List.getElem_map, List.getElem_range]
      intro j u hu
      have := (hf3 i hi5).2 j u hu
      rw [Addr.add_mid, Addr.add_mid] at this
      exact this

theorem open_sums {p : List MemPlace} {d : DataW H} {v : Value} {fuel : Nat} (hf : DataW.trod enc Tryd.prog W base spare held fuel 32 [v] = some (d, p)) : ∃ a n c, ∃ ls : List Sm, v = .slice a n c ∧ n = ls.length ∧ (∀ x ∈ ls, x.wf) ∧ RowAt W a 35 smCells ls ∧ n ≤ c ∧ c ≤ maxLen := by
  rcases open_slice Tryd.underlying32 hf with ⟨hcs, _⟩ | ⟨a, len, cap, m, k, D, Pl, hcs, _, hl, hm, hmm, _, hi⟩
  · obtain rfl := (List.cons.inj hcs).1
    exact ⟨none, 0, 0, [], rfl, rfl, fun x hx => (by simp at hx), RowAt.nil _ _, Nat.le_refl _, by unfold maxLen; omega⟩
  · obtain rfl := (List.cons.inj hcs).1
    have hlm : len ≤ m := by rw [hmm]; split <;> omega
    rw [show Tryd.prog.cellsOf 28 = 35 by kernel_rfl] at hi
    have key : ∀ i, i < len → ∃ x : Sm, x.wf ∧ ∀ j u, (smCells x)[j]? = some u → W.cell? ((a.add (i * 35)).add j) = some u := fun i hi2 => by
      obtain ⟨cs', hc, ht⟩ := hi i (by omega)
      obtain ⟨x, h1, rfl⟩ := open_sm ht
      obtain ⟨_, hcl, hat⟩ := World.cells?_some hc
      refine ⟨x, h1, fun j u hu => ?_⟩
      have hj : j < 35 := by rw [← hcl]; exact (List.getElem?_eq_some_iff.1 hu).1
      have := hat j hj
      rw [this]; exact hu
    obtain ⟨f, hf3⟩ : ∃ f : Nat → Sm, ∀ i, i < len → (f i).wf ∧ ∀ j u, (smCells (f i))[j]? = some u → W.cell? ((a.add (i * 35)).add j) = some u := by
      refine ⟨fun i => if h : i < len then Classical.choose (key i h) else ⟨[], 0, 0, 0⟩, fun i hi2 => ?_⟩
      simp only [hi2, dif_pos]
      exact Classical.choose_spec (key i hi2)
    refine ⟨some a, len, cap, (List.range len).map f, rfl, by simp, ?_, fun hne => ?_, hl, hm⟩
    · intro x hx
      obtain ⟨i, hi3, rfl⟩ := List.mem_map.1 hx
      exact (hf3 i (List.mem_range.1 hi3)).1
    · have h0 : 0 < len := by
        rcases Nat.eq_zero_or_pos len with e | e
        · subst e; simp at hne
        · exact e
      obtain ⟨b, off, spot⟩ := a
      have hsp := (hf3 0 h0).2 0 _ (List.getElem?_eq_getElem (by rw [smCells_len (hf3 0 h0).1.hash]; omega))
      have hspot : spot = none := by simpa [Addr.add] using World.cell?_spot hsp
      subst hspot
      refine ⟨b, off, rfl, fun i hi4 => ?_⟩
      have hi5 : i < len := by simpa using hi4
      rw [List.getElem_map, List.getElem_range]
      intro j u hu
      have := (hf3 i hi5).2 j u hu
      rw [Addr.add_mid, Addr.add_mid] at this
      exact this

end

end Go.Proofs.YtobcfhninchnkaaDoor
