/- different offers, or salts, have different messages: plain; guarded loads of rows. -/
import Derived.Test.YtmifpokafaiebaaDoorOs4
namespace Go.Proofs.YtmifpokafaiebaaDoor
open Go Go.RowKit
set_option linter.unusedVariables false
set_option maxRecDepth 100000

theorem bs_eq (l k : List UInt8) : ((bsOf l).toList == (bsOf k).toList) = decide (l = k) := by
  rw [ByteArray.toList_eq, ByteArray.toList_eq, bsOf_list, bsOf_list, Bool.eq_iff_iff]; simp
theorem encI_inj {a b : Int} {r s : List UInt8} (ha : -9223372036854775808 ≤ a ∧ a ≤ 9223372036854775807) (hb : -9223372036854775808 ≤ b ∧ b ≤ 9223372036854775807) (h : Enc.encI a ++ r = Enc.encI b ++ s) : a = b ∧ r = s := by
  unfold Enc.encI at h
  rw [List.cons_append, List.cons_append] at h
  obtain ⟨h1, h2⟩ := Enc.num_inj (Enc.zz_lt ha.1 ha.2) (Enc.zz_lt hb.1 hb.2) (List.cons.inj h).2
  exact ⟨Enc.zz_inj h1, h2⟩
theorem flat_inj : ∀ (l k : List Int) (r s : List UInt8), l.length = k.length → (∀ n ∈ l, -9223372036854775808 ≤ n ∧ n ≤ 9223372036854775807) → (∀ n ∈ k, -9223372036854775808 ≤ n ∧ n ≤ 9223372036854775807) →
    (l.map Enc.encI).flatten ++ r = (k.map Enc.encI).flatten ++ s → l = k ∧ r = s
  | [], [], r, s, _, _, _, h => ⟨rfl, h⟩
  | a :: l, b :: k, r, s, hl, ha, hb, h => by
    simp only [List.map_cons, List.flatten_cons, List.append_assoc] at h
    obtain ⟨h1, h2⟩ := encI_inj (ha a (by simp)) (hb b (by simp)) h
    obtain ⟨h3, h4⟩ := flat_inj l k r s (by simpa using hl) (fun n hn => ha n (by simp [hn])) (fun n hn => hb n (by simp [hn])) h2
    exact ⟨by rw [h1, h3], h4⟩
  | [], _ :: _, _, _, hl, _, _, _ => by simp at hl
  | _ :: _, [], _, _, hl, _, _, _ => by simp at hl
theorem encIts_eq (ns : List Int) : encIts (ints ns) = 3 :: (Enc.num ns.length ++ (ns.map Enc.encI).flatten) := by
  unfold encIts ints Enc.encL
  rw [List.map_map, List.length_map]
  rfl
theorem encIts_inj {l k : List Int} {r s : List UInt8} (hl : l.length < 1000000) (hk : k.length < 1000000) (ha : ∀ n ∈ l, -9223372036854775808 ≤ n ∧ n ≤ 9223372036854775807) (hb : ∀ n ∈ k, -9223372036854775808 ≤ n ∧ n ≤ 9223372036854775807)
    (h : encIts (ints l) ++ r = encIts (ints k) ++ s) : l = k ∧ r = s := by
  rw [encIts_eq, encIts_eq, List.cons_append, List.cons_append, List.append_assoc, List.append_assoc] at h
  obtain ⟨h1, h2⟩ := Enc.num_inj (by omega) (by omega) (List.cons.inj h).2
  exact flat_inj l k r s h1 ha hb h2
theorem lotNs_inj : ∀ (l k : List (Int × Int)), lotNs l = lotNs k → l = k
  | [], [], _ => rfl
  | (a, b) :: l, (c, d) :: k, h => by
    simp only [lotNs, List.flatMap_cons, List.cons_append, List.nil_append, List.cons.injEq] at h
    rw [h.1, h.2.1, lotNs_inj l k h.2.2]
  | [], _ :: _, h => by simp [lotNs] at h
  | _ :: _, [], h => by simp [lotNs] at h
theorem encMsg_inj {o p : Of} {s t : List UInt8} (ho : OfOk o) (hp : OfOk p) (hs : s.length = 16) (ht : t.length = 16) (h : encMsg o s = encMsg p t) : o = p ∧ s = t := by
  unfold encMsg Enc.encL headNs at h
  simp only [List.map_cons, List.map_nil, List.cons_append, List.nil_append, List.length_cons, List.length_nil, List.flatten_cons, List.flatten_nil] at h
  obtain ⟨-, h⟩ := Enc.num_inj (by omega) (by omega) (List.cons.inj h).2
  have o1 := ho.no; have o2 := ho.farm; have o3 := ho.price; have o4 := ho.rain; have o5 := ho.len
  have p1 := hp.no; have p2 := hp.farm; have p3 := hp.price; have p4 := hp.rain; have p5 := hp.len
  obtain ⟨e1, h⟩ := encI_inj (by omega) (by omega) h
  obtain ⟨e2, h⟩ := encI_inj (by omega) (by omega) h
  obtain ⟨e3, h⟩ := encI_inj (by omega) (by omega) h
  obtain ⟨e4, h⟩ := encI_inj (by omega) (by omega) h
  obtain ⟨e5, h⟩ := encI_inj (by omega) (by omega) h
  obtain ⟨e6, h⟩ := encIts_inj (by rw [lotNs_length]; omega) (by rw [lotNs_length]; omega) (lotNs_ok ho) (lotNs_ok hp) h
  unfold Enc.encT at h
  rw [hs, ht, List.cons_append, List.cons_append, List.append_nil, List.append_nil] at h
  have e7 := List.append_cancel_left (List.cons.inj h).2
  have e8 := lotNs_inj _ _ e6
  refine ⟨?_, e7⟩
  obtain ⟨a1, a2, a3, a4, a5, a6⟩ := o
  obtain ⟨b1, b2, b3, b4, b5, b6⟩ := p
  simp only at e1 e2 e3 e4 e5 e8
  rw [e1, e2, e3, e4, e5, e8]

theorem wpList_load_arrG {P : Program} {ops : Array Oper} {rest : List Oper} {Q : Exit → Act → World → Prop} {a : Act} {w : World} {o : Oper} (hw : Region.wanted o (yielded ops a.tmps) = true) (ty : TypeId) (x : Operand) (ho : o.op = .load ty x)
    (b off : Nat) (hx : a.eval x = .pointer (some ⟨b, off, none⟩)) (D : Array Value) (d : TypeDesc) (hc : w.rangeAt b off D.toList)
    (hu : P.underlying ty = some d) (hd : d.isRow = true) (hi : (P.info? ty).map (·.size) = some D.size)
    (h : wpList P ops Q rest (a.put o.dst (.agg D)) w) : wpList P ops Q (o :: rest) a w :=
  wpList_step fun K hK => by
    rw [if_pos hw]
    exact wp_load_mid ty x ho b off hx D.toList d hc hu hd (by rw [hi, Array.length_toList]) (by rw [Array.toArray_toList]; exact hK _ _ h)

end Go.Proofs.YtmifpokafaiebaaDoor
