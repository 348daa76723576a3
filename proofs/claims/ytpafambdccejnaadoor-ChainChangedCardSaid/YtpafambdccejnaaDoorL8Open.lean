/- ARGUMENTS THAT ARE LINKS: opened. -/
import Derived.Test.YtpafambdccejnaaDoorL8Parts
import Derived.WalkKit
import Derived.ProofKit
import Derived.OpenShut
import Derived.ShutString
import Derived.ChangeOld
import Derived.ChangeMaps5
import Derived.Below
import Derived.Carry
import Derived.Deep.Slices
namespace Go.Proofs.YtpafambdccejnaaDoor
open Go.ChangeShapes Go.WideShapes Go.ChangeAt Go.RowKit
open Go.Deep (open_slice)
set_option linter.unusedVariables false

/-- bytes that came in -/
theorem sb_of' {W : World} {x : Addr} {len : Nat} {zs : List Int} (hl : len ≤ zs.length) (hcell : ∀ i, i < zs.length → W.cell? (x.add i) = some (.int .u8 (zs.getD i 0))) (hwf : ∀ n ∈ zs, (Lit.int .u8 n).wf = true) :
    ∃ l : List UInt8, l.length = len ∧ SB W (some x) l := by
  refine ⟨(zs.take len).map fun z => UInt8.ofNat z.toNat, by simp; omega, fun hne => ?_⟩
  have h0 : 0 < len := by
    rcases Nat.eq_zero_or_pos len with e | e
    · subst e; simp at hne
    · exact e
  obtain ⟨b, off, spot⟩ := x
  have hc := hcell 0 (by omega)
  have hspot : spot = none := by simpa [Addr.add] using World.cell?_spot hc
  subst hspot
  refine ⟨b, off, rfl, fun i hi => ?_⟩
  have hi' : i < len := by simp at hi; omega
  have h := hcell i (by omega)
  have e2 : (Addr.add ⟨b, off, none⟩ i) = ⟨b, off + i, none⟩ := by simp [Addr.add]
  rw [e2] at h
  rw [h]
  have hiz : i < zs.length := by omega
  have hb := bounds_u8 (hwf zs[i] (List.getElem_mem hiz))
  have : zs.getD i 0 = zs[i] := by simp [hiz]
  rw [this]
  simp only [List.getElem_map, List.getElem_take]
  generalize zs[i] = z at *
  have e3 : (UInt8.ofNat z.toNat).toNat = z.toNat := by rw [UInt8.toNat_ofNat']; omega
  rw [e3]
  congr 2
  omega


section
variable {H : Type} {enc : TypeId × Value → H} {W : World} {base : Nat} {spare : Nat → Bool} {held : Bool}

theorem open_bytes {fuel : Nat} {v : Value} {x : DataW H × List MemPlace} (hf : DataW.trod enc Tryd.prog W base spare held fuel 23 [v] = some x) :
    ∃ p n c l, v = .slice p n c ∧ l.length = n ∧ n ≤ c ∧ c ≤ maxLen ∧ SB W p l := by
  rcases open_ints Tryd.underlying23 Tryd.underlying5 (by kernel_rfl) hf with ⟨hcs, _⟩ | ⟨y, ln, c, zs, hcs, _, hl, hm, hz, _, hcell, hwz⟩
  · obtain rfl := (List.cons.inj hcs).1
    exact ⟨none, 0, 0, [], rfl, rfl, Nat.le_refl _, by unfold maxLen; omega, fun h => absurd rfl h⟩
  · obtain rfl := (List.cons.inj hcs).1
    have hz2 : ln ≤ zs.length := by rw [hz]; split <;> omega
    obtain ⟨l, h1, h2⟩ := sb_of' hz2 hcell hwz
    exact ⟨_, _, _, l, rfl, h1, hl, hm, h2⟩

theorem take1 {cs : List Value} {i : Nat} {v : Value} (h : (cs.drop i).take 1 = [v]) : cs[i]? = some v := by
  have : ((cs.drop i).take 1)[0]? = some v := by rw [h]; rfl
  simpa using this

theorem open_lk {fuel : Nat} {cs : List Value} {x : DataW H × List MemPlace} (hf : DataW.trod enc Tryd.prog W base spare held fuel 37 cs = some x) : ∃ lk : Lk, lk.wf ∧ LkV W cs lk := by
  obtain ⟨xs, n, _, _, hlen, hxs, hg⟩ := DataW.trod_struct Tryd.underlying37 hf
  have hl35 : cs.length = 35 := hlen
  have hx4 : xs.length = 4 := hxs
  have hx : ∀ i (h : i < 4), xs[i]? = some (xs[i]'(by omega)) := fun i h => List.getElem?_eq_getElem (by omega)
  have g0 := (hg 0 _ rfl).trans (hx 0 (by omega))
  have g1 := (hg 1 _ rfl).trans (hx 1 (by omega))
  have g2 := (hg 2 _ rfl).trans (hx 2 (by omega))
  have g3 := (hg 3 _ rfl).trans (hx 3 (by omega))
  obtain ⟨n0, c0, _, w0⟩ := DataW.trod_int Tryd.underlying3 g0
  obtain ⟨n1, c1, _, w1⟩ := DataW.trod_int Tryd.underlying3 g1
  obtain ⟨ys, m, _, _, _, hyl, hy⟩ := DataW.trod_array Tryd.underlying35 g2
  have d0 : cs[0]? = some (.int .i64 n0) := take1 c0
  have d1 : cs[1]? = some (.int .i64 n1) := take1 c1
  have d2 : ∀ i, i < 32 → ∃ z : Nat, z < 256 ∧ cs[2 + i]? = some (.int .u8 z) := fun i hi => by
    have h := (hy i hi).trans (List.getElem?_eq_getElem (show i < ys.length by rw [hyl]; exact hi))
    obtain ⟨z, cz, _, wz⟩ := DataW.trod_int Tryd.underlying5 h
    have hb := bounds_u8 wz
    have h1 := take1 cz
    rw [show i * Tryd.prog.cellsOf 5 = i by rw [show Tryd.prog.cellsOf 5 = 1 by kernel_rfl, Nat.mul_one]] at h1
    have h2 : (((cs.drop 2).take 32))[i]? = cs[2 + i]? := by
      rw [List.getElem?_take_of_lt hi, List.getElem?_drop]
    refine ⟨z.toNat, by omega, ?_⟩
    rw [← h2, show ((z.toNat : Nat) : Int) = z by omega]
    exact h1
  have h34 : ∃ v, cs[34]? = some v ∧ DataW.trod enc Tryd.prog W base spare held n 23 [v] = some (xs[3]'(by omega)) := by
    refine ⟨cs[34]'(by omega), List.getElem?_eq_getElem (by omega), ?_⟩
    have e : (cs.drop 34).take 1 = [cs[34]'(by omega)] := by
      rw [List.drop_eq_getElem_cons (by omega)]; rfl
    rw [← e]; exact g3
  obtain ⟨v, d3, hv⟩ := h34
  obtain ⟨p, k, c, l, rfl, hl, hkc, hcm, hsb⟩ := open_bytes hv
  have b0 := bounds_i64 w0
  have b1 := bounds_i64 w1
  obtain ⟨f, hf2⟩ : ∃ f : Nat → Nat, ∀ i, i < 32 → f i < 256 ∧ cs[2 + i]? = some (.int .u8 (f i : Nat)) := by
    refine ⟨fun i => if h : i < 32 then Classical.choose (d2 i h) else 0, fun i hi => ?_⟩
    simp only [hi, dif_pos]
    exact Classical.choose_spec (d2 i hi)
  have hpl : ((List.range 32).map fun i => UInt8.ofNat (f i)).length = 32 := by simp
  refine ⟨⟨n0, n1, (List.range 32).map fun i => UInt8.ofNat (f i), l⟩, ⟨⟨b0.1, b0.2⟩, ⟨b1.1, b1.2⟩, hpl⟩, p, c, ?_, by simp only [hl]; exact hkc, hcm, hsb⟩
  refine List.ext_getElem? fun j => ?_
  rcases Nat.lt_or_ge j 35 with hj | hj
  · rcases Nat.lt_or_ge j 2 with h2 | h2
    · rcases Nat.lt_or_ge j 1 with h1 | h1
      · obtain rfl : j = 0 := by omega
        rw [d0]; rfl
      · obtain rfl : j = 1 := by omega
        rw [d1]; rfl
    · rcases Nat.lt_or_ge j 34 with h3 | h3
      · obtain ⟨i, rfl⟩ : ∃ i, j = 2 + i := ⟨j - 2, by omega⟩
        have hi : i < 32 := by omega
        rw [(hf2 i hi).2]
        simp only [lkCells]
        rw [show 2 + i = i + 1 + 1 by omega, List.getElem?_cons_succ, List.getElem?_cons_succ, List.getElem?_append_left (by rw [u8s_length, hpl]; exact hi)]
        simp [u8s, hi, UInt8.toNat_ofNat', Nat.mod_eq_of_lt (hf2 i hi).1]
      · obtain rfl : j = 34 := by omega
        rw [d3, ← hl]
        simp only [lkCells]
        rw [List.getElem?_cons_succ, List.getElem?_cons_succ, List.getElem?_append_right (by rw [u8s_length, hpl]; omega), u8s_length, hpl]
        rfl
  · rw [List.getElem?_eq_none (by omega), List.getElem?_eq_none (by rw [lkCells_len hpl]; omega)]

theorem open_links {p : List MemPlace} {d : DataW H} {v : Value} {fuel : Nat} (hf : DataW.trod enc Tryd.prog W base spare held fuel 22 [v] = some (d, p)) : ∃ a n c ls, v = .slice a n c ∧ In W a n c ls := by
  rcases open_slice Tryd.underlying22 hf with ⟨hcs, _⟩ | ⟨a, len, cap, m, k, D, Pl, hcs, _, hl, hm, hmm, _, hi⟩
  · obtain rfl := (List.cons.inj hcs).1
    exact ⟨none, 0, 0, [], rfl, rfl, fun x hx => by simp at hx, Links.nil _ _, Nat.le_refl _, by unfold maxLen; omega⟩
  · obtain rfl := (List.cons.inj hcs).1
    have hlm : len ≤ m := by rw [hmm]; split <;> omega
    rw [show Tryd.prog.cellsOf 37 = 35 by kernel_rfl] at hi
    have key : ∀ i, i < len → ∃ lk : Lk, lk.wf ∧ ∃ cs, LkV W cs lk ∧ ∀ j u, cs[j]? = some u → W.cell? ((a.add (i * 35)).add j) = some u := fun i hi2 => by
      obtain ⟨cs', hc, ht⟩ := hi i (by omega)
      obtain ⟨lk, h1, h2⟩ := open_lk ht
      obtain ⟨_, hcl, hat⟩ := World.cells?_some hc
      refine ⟨lk, h1, cs', h2, fun j u hu => ?_⟩
      have hj : j < 35 := by rw [← hcl]; exact (List.getElem?_eq_some_iff.1 hu).1
      have := hat j hj
      rw [this, hu]
    have hls : ∃ f : Nat → Lk, ∀ i, i < len → (f i).wf ∧ ∃ cs, LkV W cs (f i) ∧ ∀ j u, cs[j]? = some u → W.cell? ((a.add (i * 35)).add j) = some u := by
      refine ⟨fun i => if h : i < len then Classical.choose (key i h) else ⟨0, 0, [], []⟩, fun i hi2 => ?_⟩
      simp only [hi2, dif_pos]
      exact Classical.choose_spec (key i hi2)
    obtain ⟨f, hf3⟩ := hls
    refine ⟨some a, len, cap, (List.range len).map f, rfl, by simp, ?_, fun hne => ?_, hl, hm⟩
    · intro x hx
      obtain ⟨i, hi3, rfl⟩ := List.mem_map.1 hx
      exact (hf3 i (List.mem_range.1 hi3)).1
    · have h0 : 0 < len := by
        rcases Nat.eq_zero_or_pos len with e | e
        · subst e; simp at hne
        · exact e
      obtain ⟨b, off, spot⟩ := a
      obtain ⟨_, cs0, ⟨px, cx, hcs0, _⟩, hc0⟩ := hf3 0 h0
      have hsp := hc0 0 (.int .i64 (f 0).node) (by rw [hcs0]; rfl)
      have hspot : spot = none := by simpa [Addr.add] using World.cell?_spot hsp
      subst hspot
      refine ⟨b, off, rfl, fun i hi4 => ?_⟩
      have hi5 : i < len := by simpa using hi4
      obtain ⟨_, cs, hv, hc⟩ := hf3 i hi5
      rw [List.getElem_map, List.getElem_range]
      refine ⟨cs, hv, fun j u hu => ?_⟩
      have := hc j u hu
      rw [Addr.add_mid, Addr.add_mid] at this
      exact this
end

end Go.Proofs.YtpafambdccejnaaDoor
