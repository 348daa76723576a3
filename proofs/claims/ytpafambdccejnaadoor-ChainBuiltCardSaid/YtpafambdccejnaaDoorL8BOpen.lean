/- A ROW OF BYTE SLICES that came in: opened. -/
import Derived.Test.YtpafambdccejnaaDoorL8Built
namespace Go.Proofs.YtpafambdccejnaaDoor
open Go.ChangeShapes Go.WideShapes Go.ChangeAt Go.RowKit
open Go.Deep (open_slice)
set_option linter.unusedVariables false

section
variable {H : Type} {enc : TypeId × Value → H} {W : World} {base : Nat} {spare : Nat → Bool} {held : Bool}
theorem open_byteses {p : List MemPlace} {d : DataW H} {v : Value} {fuel : Nat} (hf : DataW.trod enc Tryd.prog W base spare held fuel 33 [v] = some (d, p)) : ∃ a n c L, v = .slice a n c ∧ BB W a n c L := by
  rcases open_slice Tryd.underlying33 hf with ⟨hcs, _⟩ | ⟨a, len, cap, m, k, D, Pl, hcs, _, hl, hm, hmm, _, hi⟩
  · obtain rfl := (List.cons.inj hcs).1
    exact ⟨none, 0, 0, fun _ => [], rfl, ⟨fun i hi => by omega, Nat.le_refl _, by unfold maxLen; omega⟩⟩
  · obtain rfl := (List.cons.inj hcs).1
    have hlm : len ≤ m := by rw [hmm]; split <;> omega
    rw [show Tryd.prog.cellsOf 23 = 1 by kernel_rfl] at hi
    have key : ∀ i, i < len → ∃ l : List UInt8, ∃ b o q d, a = ⟨b, o, none⟩ ∧ W.cell? ⟨b, o + i, none⟩ = some (.slice q l.length d) ∧ l.length ≤ d ∧ d ≤ maxLen ∧ SB W q l := fun i hi2 => by
      obtain ⟨cs', hc, ht⟩ := hi i (by omega)
      obtain ⟨_, hcl, hat⟩ := World.cells?_some hc
      obtain ⟨u, rfl⟩ : ∃ u, cs' = [u] := by
        match cs', hcl with
        | [u], _ => exact ⟨u, rfl⟩
      obtain ⟨q, n, d, l, rfl, hln, hnd, hdm, hsb⟩ := open_bytes ht
      have h0 := hat 0 (by omega)
      obtain ⟨b, o, spot⟩ := a
      have h1 : W.cell? ((Addr.add ⟨b, o, spot⟩ (i * 1)).add 0) = some (.slice q n d) := by rw [h0]; rfl
      have hspot : spot = none := by
        obtain ⟨c0, hc0, ht0⟩ := hi 0 (by omega)
        obtain ⟨_, hcl0, hat0⟩ := World.cells?_some hc0
        obtain ⟨u, rfl⟩ : ∃ u, c0 = [u] := by
          match c0, hcl0 with
          | [u], _ => exact ⟨u, rfl⟩
        have h2 : W.cell? ((Addr.add ⟨b, o, spot⟩ (0 * 1)).add 0) = some u := by rw [hat0 0 (by omega)]; rfl
        simpa [Addr.add] using World.cell?_spot h2
      subst hspot
      rw [Addr.add_mid, Addr.add_mid, Nat.mul_one, Nat.add_zero] at h1
      subst hln
      exact ⟨l, b, o, q, d, rfl, h1, hnd, hdm, hsb⟩
    refine ⟨some a, len, cap, fun i => if h : i < len then Classical.choose (key i h) else [], rfl, ⟨fun i hi2 => ?_, hl, hm⟩⟩
    obtain ⟨b, o, q, d, e, hc, h1, h2, h3⟩ := Classical.choose_spec (key i hi2)
    simp only [hi2, dif_pos]
    exact ⟨b, o, q, d, by rw [e], hc, h1, h2, h3⟩
end

end Go.Proofs.YtpafambdccejnaaDoor
