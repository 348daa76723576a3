/- THE WALK OF acequialaw11.point. -/
import Derived.Test.YthjglkpkeffmpaaDoorSign4
namespace Go.Proofs.YthjglkpkeffmpaaDoor
open Go.RowKit
set_option linter.unusedVariables false

set_option maxRecDepth 100000 in
set_option maxHeartbeats 1000000 in
theorem point_calls (key E S : Int) (w : World) (h1 : 0 ≤ E) (h2 : E < 1073741789) (h3 : 0 ≤ S) (h4 : S < 1073741789) (hk : elz key = true) :
    Calls Tryd.prog 14 #[.int .i64 key, .agg #[.int .i64 E, .int .i64 S]] w fun e w' => e = .returned (.tuple #[.int .i64 (sgR key E S : Nat), .bool true]) ∧ Up w w' := by
  have PS := Lib.hid fun w => pow_yes (n := S) w elz4
  have PE := Lib.hid fun w => pow_yes (n := -E) w hk
  obtain ⟨a, ha⟩ : ∃ a, a = Sq.pz (4 : Int).toNat S := ⟨_, rfl⟩
  obtain ⟨b, hb⟩ : ∃ b, b = Sq.pz key.toNat (-E) := ⟨_, rfl⟩
  have M := Lib.hid fun w => mul_yes w (elz_pz elz4 S) (elz_pz hk (-E))
  obtain ⟨r, hr⟩ : ∃ r, r = sgR key E S := ⟨_, rfl⟩
  have hrv : Hid ((a : Int) * b % 2147483579 = (r : Nat)) := by
    show _ = _
    have e : sgR key E S = a * b % 2147483579 := by rw [sgR, ha, hb]; rfl
    rw [hr, e]; simp
  rw [← ha] at PS M
  rw [← hb] at PE M
  rw [hrv.out] at M
  rw [← hr]
  clear hk ha hb hr hrv
  go_enter Tryd.func14, Tryd.ntmps14
  go_wp2_with fail
  refine calls_named0 ?_
  intro W1 hW1
  obtain ⟨bt, hbt⟩ : ∃ bt, bt = w.heap.size := ⟨_, rfl⟩
  rw [← hbt]
  have U1 : Hid (Up w W1) := by show Up w W1; rw [hW1]; exact (Up.refl w).alloc _
  have T1 : Hid (W1.heap[bt]? = some (.cells #[.int .i64 E, .int .i64 S] 24 (0, 0))) := by show _ = _; rw [hW1, heap_new hbt]
  clear hW1 hbt
  refine (PS.out _).mono ?_
  rintro e w2 ⟨rfl, u2⟩
  have u2 : Up W1 w2 := u2
  have U2 : Hid (Up w w2) := Up.trans U1.out u2
  have t2 : w2.heap[bt]? = some (.cells #[.int .i64 E, .int .i64 S] 24 (0, 0)) := (u2.block bt (lt_of_block T1.out)).trans T1.out
  have a0 : w2.cell? ⟨bt, 0, none⟩ = some (.int .i64 E) := by rw [cell_of_row w2 bt 0 _ _ _ t2]; rfl
  have en : IntKind.i64.wrap (-E) = -E := IntWalk.i64_in _ (by omega)
  have en2 : wrap64 (-E) = -E := wrap64_id (by omega) (by omega)
  clear u2 t2
  go_wp2_with fail
  refine (PE.out _).mono ?_
  rintro e w4 ⟨rfl, u4⟩
  have U4 : Hid (Up w w4) := Up.trans U2.out u4
  clear u4 a0
  go_wp2_with fail
  refine (M.out _).mono ?_
  rintro e w6 ⟨rfl, rfl⟩
  go_wp2_with fail
  refine bodyPost_ret (v := .tuple #[.int .i64 r, .bool true]) (by simp [results, Tryd.results14, go_sem]) rfl ⟨rfl, U4.out⟩
/-- a row of api.Value that lies whole -/
theorem ownV_of_row {w : World} {b : Nat} {els : List El} {v : Value} {k : Nat} (hk : k = els.length) (hl : k ≤ 65536) (hv : v = .slice (some ⟨b, 0, none⟩) k k) (h : w.heap[b]? = some (.cells (rowV els).toArray 41 (0, 0))) : OwnV w b v els := by
  subst hk hv
  refine ⟨rowV_len els, .inr ⟨b, els.length, _, rfl, Nat.le_refl _, h, Nat.le_refl _, by unfold maxLen; omega, by simp [rowV_len], ?_⟩⟩
  rw [List.take_of_length_le (by simp [rowV_len])]

/-- Encode at a list of two numbers and a text, then Hash -/
theorem encHash3 (tag : ByteArray) (ht : tag.size ≤ 200) (b : Nat) (a1 a2 : Int) (s : ByteArray) (w : World) (hs : s.size ≤ 600) (ha : -9223372036854775808 ≤ a1 ∧ a1 ≤ 9223372036854775807) (hb : -9223372036854775808 ≤ a2 ∧ a2 ≤ 9223372036854775807)
    (h : w.heap[b]? = some (.cells #[.int .i64 1, .int .i64 a1, .string ⟨#[]⟩, .slice none 0 0, .int .i64 1, .int .i64 a2, .string ⟨#[]⟩, .slice none 0 0, .int .i64 2, .int .i64 0, .string s, .slice none 0 0] 41 (0, 0))) (htab : Tabs w) :
    ∃ n, n = hIts tag [.inl a1, .inl a2, .inr s] ∧ Calls Tryd.prog 15 #[.agg #[.int .i64 3, .int .i64 0, .string ⟨#[]⟩, .slice (some ⟨b, 0, none⟩) 3 3]] w fun e w' => ∃ p m c, e = .returned (.tuple #[.slice p m c, .int .i64 0]) ∧ Up w w' ∧
      ∀ w2, Up w' w2 → Calls Tryd.prog 16 #[.string tag, .slice p m c] w2 fun e w3 => e = .returned (.int .i64 (n : Nat)) ∧ Up w2 w3 := by
  refine ⟨_, rfl, (encodeIts_calls b _ [.inl a1, .inl a2, .inr s] w (ownV_of_row (k := 3) rfl (by omega) rfl h) ?_ (by simp) ?_).mono ?_⟩
  · intro x hx
    simp only [List.mem_cons, List.not_mem_nil, or_false] at hx
    rcases hx with rfl | rfl | rfl
    · exact ha
    · exact hb
    · show s.size ≤ 1048576; omega
  · have := encIts3_len a1 a2 s hs
    have : (([.inl a1, .inl a2, .inr s] : List Enc.It).map Enc.encIt).flatten.length ≤ (encIts [.inl a1, .inl a2, .inr s]).length := by simp [encIts, Enc.encL]; omega
    omega
  · rintro e w' ⟨v, rfl, ho, hu⟩
    obtain ⟨p, c, rfl, h1, h2, h3⟩ := ho.form
    exact ⟨p, _, c, rfl, hu, fun w2 h => hash_calls tag p c _ w2 ht (encIts3_len a1 a2 s hs) h1 h2 (h3.up h) (htab.up (Up.trans hu h)).1 (htab.up (Up.trans hu h)).2⟩

end Go.Proofs.YthjglkpkeffmpaaDoor
