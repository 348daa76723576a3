/- ARGUMENTS THAT ARE OFFERS, SEALS AND OPENS: opened. -/
import Derived.Test.YtmifpokafaiebaaDoorOgC
import Derived.WalkKit
import Derived.ProofKit
import Derived.OpenShut
import Derived.ShutString
import Derived.ChangeOld
import Derived.ChangeMaps5
import Derived.Below
import Derived.Carry
import Derived.Deep.Slices
namespace Go.Proofs.YtmifpokafaiebaaDoor
open Go.ChangeShapes Go.WideShapes Go.ChangeAt Go.RowKit
open Go.Deep (open_slice)
set_option linter.unusedVariables false
set_option maxRecDepth 100000

section
variable {H : Type} {enc : TypeId × Value → H} {W : World} {base : Nat} {spare : Nat → Bool} {held : Bool}

theorem take1 {cs : List Value} {i : Nat} {v : Value} (h : (cs.drop i).take 1 = [v]) : cs[i]? = some v := by
  have : ((cs.drop i).take 1)[0]? = some v := by rw [h]; rfl
  simpa using this

/-- a slice of elements of k cells each -/
theorem open_rows {α : Type} [Inhabited α] {enc2 : α → List Value} {good : α → Prop} {t e : TypeId} {k : Nat} (ht : Tryd.prog.underlying t = some (.slice e)) (hk : Tryd.prog.cellsOf e = k) (hkp : 0 < k) (hlen : ∀ a, (enc2 a).length = k)
    (hel : ∀ (fuel : Nat) (cs : List Value) (x : DataW H × List MemPlace), DataW.trod enc Tryd.prog W base spare held fuel e cs = some x → ∃ a, good a ∧ cs = enc2 a)
    {p : List MemPlace} {d : DataW H} {v : Value} {fuel : Nat} (hf : DataW.trod enc Tryd.prog W base spare held fuel t [v] = some (d, p)) :
    ∃ a n c, ∃ ls : List α, v = .slice a n c ∧ n = ls.length ∧ (∀ x ∈ ls, good x) ∧ RowAt W a k enc2 ls ∧ n ≤ c ∧ c ≤ maxLen := by
  rcases open_slice ht hf with ⟨hcs, _⟩ | ⟨a, len, cap, m, fu, D, Pl, hcs, _, hl, hm, hmm, _, hi⟩
  · obtain rfl := (List.cons.inj hcs).1
    exact ⟨none, 0, 0, [], rfl, rfl, fun x hx => (by simp at hx), RowAt.nil _ _, Nat.le_refl _, by unfold maxLen; omega⟩
  · obtain rfl := (List.cons.inj hcs).1
    have hlm : len ≤ m := by rw [hmm]; split <;> omega
    rw [hk] at hi
    have key : ∀ i, i < len → ∃ x : α, good x ∧ ∀ j u, (enc2 x)[j]? = some u → W.cell? ((a.add (i * k)).add j) = some u := fun i hi2 => by
      obtain ⟨cs', hc, ht⟩ := hi i (by omega)
      obtain ⟨x, h1, rfl⟩ := hel _ _ _ ht
      obtain ⟨_, hcl, hat⟩ := World.cells?_some hc
      refine ⟨x, h1, fun j u hu => ?_⟩
      have hj : j < k := by rw [← hcl]; exact (List.getElem?_eq_some_iff.1 hu).1
      have := hat j hj
      rw [this]; exact hu
    obtain ⟨f, hf3⟩ : ∃ f : Nat → α, ∀ i, i < len → good (f i) ∧ ∀ j u, (enc2 (f i))[j]? = some u → W.cell? ((a.add (i * k)).add j) = some u := by
      refine ⟨fun i => if h : i < len then Classical.choose (key i h) else default, fun i hi2 => ?_⟩
      simp only [hi2, dif_pos]
      exact Classical.choose_spec (key i hi2)
    refine ⟨some a, len, cap, (List.range len).map f, rfl, by simp, ?_, fun hne => ?_, hl, hm⟩
    · intro x hx
      obtain ⟨i, hi3, rfl⟩ := List.mem_map.1 hx
      exact (hf3 i (List.mem_range.1 hi3)).1
    · have h0 : 0 < len := by
        rcases Nat.eq_zero_or_pos len with e | e
        · subst e; simp at hne
        · exact e
      obtain ⟨b, off, spot⟩ := a
      have hsp := (hf3 0 h0).2 0 _ (List.getElem?_eq_getElem (by rw [hlen]; exact hkp))
      have hspot : spot = none := by simpa [Addr.add] using World.cell?_spot hsp
      subst hspot
      refine ⟨b, off, rfl, fun i hi4 => ?_⟩
      have hi5 : i < len := by simpa using hi4
      rw [List.getElem_map, List.getElem_range]
      intro j u hu
      have := (hf3 i hi5).2 j u hu
      rw [Addr.add_mid, Addr.add_mid] at this
      exact this

theorem open_lot (fuel : Nat) (cs : List Value) (x : DataW H × List MemPlace) (hf : DataW.trod enc Tryd.prog W base spare held fuel 61 cs = some x) : ∃ s : Int × Int, True ∧ cs = ltEnc s := by
  obtain ⟨xs, n, _, _, hlen, hxs, hg⟩ := DataW.trod_struct Tryd.underlying61 hf
  have hl2 : cs.length = 2 := hlen
  have hx2 : xs.length = 2 := hxs
  have hx : ∀ i (h : i < 2), xs[i]? = some (xs[i]'(by omega)) := fun i h => List.getElem?_eq_getElem (by omega)
  obtain ⟨n0, c0, _, w0⟩ := DataW.trod_int Tryd.underlying3 ((hg 0 _ rfl).trans (hx 0 (by omega)))
  have d0 : cs[0]? = some (.int .i64 n0) := take1 c0
  obtain ⟨n1, c1, _, w1⟩ := DataW.trod_int Tryd.underlying3 ((hg 1 _ rfl).trans (hx 1 (by omega)))
  have d1 : cs[1]? = some (.int .i64 n1) := take1 c1
  refine ⟨(n0, n1), trivial, ?_⟩
  refine List.ext_getElem? fun j => ?_
  rcases Nat.lt_or_ge j 2 with hj | hj
  · have : j = 0 ∨ j = 1 := by omega
    rcases this with rfl | rfl
    · rw [d0]; rfl
    · rw [d1]; rfl
  · rw [List.getElem?_eq_none (by omega), List.getElem?_eq_none (by simp [ltEnc]; omega)]

instance : Inhabited Of := ⟨⟨0, 0, 0, 0, 0, []⟩⟩
instance : Inhabited OfA := ⟨⟨default, none, 0⟩⟩
instance : Inhabited SlA := ⟨⟨0, [], none, 0⟩⟩
instance : Inhabited OpA := ⟨⟨default, [], none, 0⟩⟩

theorem open_u8 (fuel : Nat) (cs : List Value) (x : DataW H × List MemPlace) (hf : DataW.trod enc Tryd.prog W base spare held fuel 5 cs = some x) : ∃ b : UInt8, True ∧ cs = u8s [b] := by
  obtain ⟨z, cz, _, wz⟩ := DataW.trod_int Tryd.underlying5 hf
  have hb := bounds_u8 wz
  refine ⟨UInt8.ofNat z.toNat, trivial, ?_⟩
  rw [cz]
  simp only [u8s, List.map_cons, List.map_nil]
  rw [show ((UInt8.ofNat z.toNat).toNat : Int) = z by rw [UInt8.toNat_ofNat', Nat.mod_eq_of_lt (by omega)]; omega]
theorem open_bytes {p : List MemPlace} {d : DataW H} {v : Value} {fuel : Nat} (hf : DataW.trod enc Tryd.prog W base spare held fuel 27 [v] = some (d, p)) : ∃ a c, ∃ l : List UInt8, v = .slice a l.length c ∧ SB W a l ∧ l.length ≤ c ∧ c ≤ maxLen := by
  obtain ⟨a, n, c, ls, h1, h2, _, h3, h4, h5⟩ := open_rows (k := 1) (enc2 := fun b : UInt8 => u8s [b]) (good := fun _ => True) Tryd.underlying27 (by kernel_rfl) (by omega) (fun _ => rfl) open_u8 hf
  subst h2
  refine ⟨a, c, ls, h1, fun hne => ?_, h4, h5⟩
  obtain ⟨b, o, e, hi⟩ := h3 hne
  refine ⟨b, o, e, fun i h => ?_⟩
  have := hi i h 0 _ rfl
  simpa using this

theorem open_off (fuel : Nat) (cs : List Value) (x : DataW H × List MemPlace) (hf : DataW.trod enc Tryd.prog W base spare held fuel 26 cs = some x) : ∃ s : OfA, LtsAt W s ∧ cs = ofCells s := by
  obtain ⟨xs, n, _, _, hlen, hxs, hg⟩ := DataW.trod_struct Tryd.underlying26 hf
  have hl6 : cs.length = 6 := hlen
  have hx5 : xs.length = 5 := hxs
  have hx : ∀ i (h : i < 5), xs[i]? = some (xs[i]'(by omega)) := fun i h => List.getElem?_eq_getElem (by omega)
  obtain ⟨n0, c0, _, w0⟩ := DataW.trod_int Tryd.underlying3 ((hg 0 _ rfl).trans (hx 0 (by omega)))
  have d0 : cs[0]? = some (.int .i64 n0) := take1 c0
  obtain ⟨n1, c1, _, w1⟩ := DataW.trod_int Tryd.underlying3 ((hg 1 _ rfl).trans (hx 1 (by omega)))
  have d1 : cs[1]? = some (.int .i64 n1) := take1 c1
  obtain ⟨n2, c2, _, w2⟩ := DataW.trod_int Tryd.underlying3 ((hg 2 _ rfl).trans (hx 2 (by omega)))
  have d2 : cs[2]? = some (.int .i64 n2) := take1 c2
  obtain ⟨ys, m, _, _, hyl, hys, hy⟩ := DataW.trod_struct Tryd.underlying23 ((hg 3 _ rfl).trans (hx 3 (by omega)))
  have hy2 : ys.length = 2 := hys
  have hyx : ∀ i (h : i < 2), ys[i]? = some (ys[i]'(by omega)) := fun i h => List.getElem?_eq_getElem (by omega)
  obtain ⟨n3, c3, _, w3⟩ := DataW.trod_int Tryd.underlying3 ((hy 0 _ rfl).trans (hyx 0 (by omega)))
  obtain ⟨n4, c4, _, w4⟩ := DataW.trod_int Tryd.underlying3 ((hy 1 _ rfl).trans (hyx 1 (by omega)))
  have d3 : cs[3]? = some (.int .i64 n3) := by
    have := take1 c3
    rw [List.getElem?_take_of_lt (by show 0 < 2; omega), List.getElem?_drop] at this
    exact this
  have d4 : cs[4]? = some (.int .i64 n4) := by
    have := take1 c4
    rw [List.getElem?_take_of_lt (by show 1 < 2; omega), List.getElem?_drop] at this
    exact this
  have hs := (hg 4 _ rfl).trans (hx 4 (by omega))
  obtain ⟨v, hv⟩ : ∃ v, (cs.drop 5).take 1 = [v] := by
    have : (cs.drop 5).length = 1 := by simp [hl6]
    obtain ⟨v, hv⟩ := List.length_eq_one_iff.1 this
    exact ⟨v, by rw [hv]; rfl⟩
  have hs2 : DataW.trod enc Tryd.prog W base spare held n 24 [v] = some xs[4] := by rw [← hv]; exact hs
  obtain ⟨a, ln, c, ls, rfl, rfl, -, g1, g2, g3⟩ := open_rows (enc2 := ltEnc) (good := fun _ => True) Tryd.underlying24 (by kernel_rfl) (by omega) ltEnc_len open_lot (show DataW.trod enc Tryd.prog W base spare held n 24 [v] = some (xs[4].1, xs[4].2) from hs2)
  have d5 : cs[5]? = some (.slice a ls.length c) := take1 hv
  refine ⟨⟨⟨n0, n1, n2, n3, n4, ls⟩, a, c⟩, ⟨g1, g2, g3⟩, ?_⟩
  refine List.ext_getElem? fun j => ?_
  rcases Nat.lt_or_ge j 6 with hj | hj
  · have : j = 0 ∨ j = 1 ∨ j = 2 ∨ j = 3 ∨ j = 4 ∨ j = 5 := by omega
    rcases this with rfl | rfl | rfl | rfl | rfl | rfl
    · rw [d0]; rfl
    · rw [d1]; rfl
    · rw [d2]; rfl
    · rw [d3]; rfl
    · rw [d4]; rfl
    · rw [d5]; rfl
  · rw [List.getElem?_eq_none (by omega), List.getElem?_eq_none (by simp [ofCells]; omega)]

theorem open_seal (fuel : Nat) (cs : List Value) (x : DataW H × List MemPlace) (hf : DataW.trod enc Tryd.prog W base spare held fuel 52 cs = some x) : ∃ s : SlA, SlAt W s ∧ cs = slCells s := by
  obtain ⟨xs, n, _, _, hlen, hxs, hg⟩ := DataW.trod_struct Tryd.underlying52 hf
  have hl2 : cs.length = 2 := hlen
  have hx2 : xs.length = 2 := hxs
  have hx : ∀ i (h : i < 2), xs[i]? = some (xs[i]'(by omega)) := fun i h => List.getElem?_eq_getElem (by omega)
  obtain ⟨n0, c0, _, w0⟩ := DataW.trod_int Tryd.underlying3 ((hg 0 _ rfl).trans (hx 0 (by omega)))
  have d0 : cs[0]? = some (.int .i64 n0) := take1 c0
  have hs := (hg 1 _ rfl).trans (hx 1 (by omega))
  obtain ⟨v, hv⟩ : ∃ v, (cs.drop 1).take 1 = [v] := by
    have : (cs.drop 1).length = 1 := by simp [hl2]
    obtain ⟨v, hv⟩ := List.length_eq_one_iff.1 this
    exact ⟨v, by rw [hv]; rfl⟩
  have hs2 : DataW.trod enc Tryd.prog W base spare held n 27 [v] = some xs[1] := by rw [← hv]; exact hs
  obtain ⟨a, c, l, rfl, g1, g2, g3⟩ := open_bytes (show DataW.trod enc Tryd.prog W base spare held n 27 [v] = some (xs[1].1, xs[1].2) from hs2)
  have d1 : cs[1]? = some (.slice a l.length c) := take1 hv
  refine ⟨⟨n0, l, a, c⟩, ⟨g1, g2, g3⟩, ?_⟩
  refine List.ext_getElem? fun j => ?_
  rcases Nat.lt_or_ge j 2 with hj | hj
  · have : j = 0 ∨ j = 1 := by omega
    rcases this with rfl | rfl
    · rw [d0]; rfl
    · rw [d1]; rfl
  · rw [List.getElem?_eq_none (by omega), List.getElem?_eq_none (by simp [slCells]; omega)]

theorem open_open (fuel : Nat) (cs : List Value) (x : DataW H × List MemPlace) (hf : DataW.trod enc Tryd.prog W base spare held fuel 44 cs = some x) : ∃ s : OpA, OpAt W s ∧ cs = opCells s := by
  obtain ⟨xs, n, _, _, hlen, hxs, hg⟩ := DataW.trod_struct Tryd.underlying44 hf
  have hl7 : cs.length = 7 := hlen
  have hx2 : xs.length = 2 := hxs
  have hx : ∀ i (h : i < 2), xs[i]? = some (xs[i]'(by omega)) := fun i h => List.getElem?_eq_getElem (by omega)
  obtain ⟨a, ha, hac⟩ := open_off _ _ _ ((hg 0 _ rfl).trans (hx 0 (by omega)))
  have hac2 : cs.take 6 = ofCells a := hac
  have hs := (hg 1 _ rfl).trans (hx 1 (by omega))
  obtain ⟨v, hv⟩ : ∃ v, (cs.drop 6).take 1 = [v] := by
    have : (cs.drop 6).length = 1 := by simp [hl7]
    obtain ⟨v, hv⟩ := List.length_eq_one_iff.1 this
    exact ⟨v, by rw [hv]; rfl⟩
  have hs2 : DataW.trod enc Tryd.prog W base spare held n 27 [v] = some xs[1] := by rw [← hv]; exact hs
  obtain ⟨p, c, l, rfl, g1, g2, g3⟩ := open_bytes (show DataW.trod enc Tryd.prog W base spare held n 27 [v] = some (xs[1].1, xs[1].2) from hs2)
  refine ⟨⟨a, l, p, c⟩, ⟨ha, g1, g2, g3⟩, ?_⟩
  have h1 : cs.drop 6 = [.slice p l.length c] := by
    have : (cs.drop 6).length = 1 := by simp [hl7]
    rw [List.take_of_length_le (by omega)] at hv; exact hv
  rw [← List.take_append_drop 6 cs, hac2, h1]; rfl
end

end Go.Proofs.YtmifpokafaiebaaDoor
