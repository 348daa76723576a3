/- THE WALK OF acequialaw11.sane. -/
import Derived.Test.YthjglkpkeffmpaaDoorSign3
import Derived.Lib.SlBytesConst
namespace Go.Proofs.YthjglkpkeffmpaaDoor
open Go.RowKit
set_option linter.unusedVariables false

theorem sgE_lt (x : Nat) (s : ByteArray) : sgE x s < 1073741789 := hIts_lt _ _
theorem sgS_lt (x : Nat) (s : ByteArray) : sgS x s < 1073741789 := Nat.mod_lt _ (by omega)

theorem sgR_sign (x : Nat) (s : ByteArray) : sgR (Sq.pz 4 x : Nat) (sgE x s) (sgS x s) = Sq.pz 4 (sgK x s) := by
  rw [sgR, Int.toNat_natCast]
  refine Sg.point_right x (sgK x s) (sgE x s) (sgS x s) ?_
  have hx : ((sgE x s * x : Nat) : Int) = (sgE x s : Int) * x := Int.natCast_mul _ _
  rw [← hx, sgS]
  generalize sgE x s * x = y
  omega

theorem verify_right (x : Nat) (s : ByteArray) (p : Option Addr) (c : Nat) (w : World) (hs : s.size ≤ 600) (hsb : SB w p s.data.toList) (htab : Tabs w) :
    Calls Tryd.prog 10 #[.int .i64 (Sq.pz 4 x : Nat), .slice p s.size c, .agg #[.int .i64 (sgE x s : Nat), .int .i64 (sgS x s : Nat)]] w fun e w' => e = .returned (.bool true) ∧ Up w w' := by
  have h1 := sgE_lt x s
  have h2 := sgS_lt x s
  have := verify_val (Sq.pz 4 x : Nat) (sgE x s) (sgS x s) s p c w (by omega) (by omega) (by omega) (by omega) (elz_pz elz4 x) hs hsb htab
  rw [sgR_sign] at this
  have e : ((sgE x s : Int) == (hIts tSign [.inl (Sq.pz 4 (sgK x s) : Nat), .inl (Sq.pz 4 x : Nat), .inr s] : Nat)) = true := by
    rw [beq_iff_eq]; rfl
  rw [e] at this
  exact this

theorem SB.of_marked {w : World} {b : Nat} {l : List UInt8} {t : TypeId} {fr : Nat × Nat} (h : w.heap[b]? = some (.cells (u8s l).toArray t fr)) : SB w (some ⟨b, 0, none⟩) l :=
  fun _ => ⟨_, _, rfl, fun i hi => by
    rw [cell_of_row _ _ _ _ _ _ h]
    simp [u8s, hi]⟩

def bLetter : ByteArray := ⟨#[108, 101, 116, 116, 101, 114]⟩

theorem sig_block {w : World} {o : Obj} : (w.alloc o).heap[w.heap.size]? = some o := heap_new rfl

set_option maxRecDepth 100000 in
set_option maxHeartbeats 1000000 in
theorem sane11_calls (w : World) (htab : Tabs w) : Calls Tryd.prog 7 #[] w fun e w' => e = .returned (.bool true) ∧ Up w w' := by
  have HT := Lib.hid htab
  have kc := fun (w : World) (C : Array Value) (n c : Nat) => Lib.run_convert_bytes_const (P := Tryd.prog) w 22 5 C n c Tryd.underlying22 Tryd.underlying5
  clear htab
  go_enter Tryd.func7, Tryd.ntmps7
  go_wp2_with fail
  refine calls_named0 ?_
  intro W1 hW1
  obtain ⟨bl, hbl⟩ : ∃ bl, bl = w.heap.size := ⟨_, rfl⟩
  rw [← hbl]
  have u1 : Up w W1 := by rw [hW1]; exact (Up.refl w).alloc _
  have s1 : SB W1 (some ⟨bl, 0, none⟩) bLetter.data.toList := SB.of_marked (t := 5) (by rw [hW1, heap_new hbl]; rfl)
  have U1 := Lib.hid u1
  have S1 := Lib.hid s1
  clear hW1 u1 s1 hbl
  refine (sign_yes 5 bLetter _ _ _ (by omega) (by omega) (by decide) S1.out (HT.out.up U1.out)).mono ?_
  rintro e w2 ⟨rfl, u2⟩
  have U2 : Hid (Up w w2) := Up.trans U1.out u2
  have S2 : Hid (SB w2 (some ⟨bl, 0, none⟩) bLetter.data.toList) := S1.out.up u2
  have hE5 := sgE_lt 5 bLetter
  have hS5 := sgS_lt 5 bLetter
  have VR := Lib.hid fun w (hsb : SB w (some ⟨bl, 0, none⟩) bLetter.data.toList) (ht : Tabs w) => verify_right 5 bLetter (some ⟨bl, 0, none⟩) 6 w (by decide) hsb ht
  have SY := Lib.hid fun w (hsb : SB w (some ⟨bl, 0, none⟩) bLetter.data.toList) (ht : Tabs w) => sign_yes 5 bLetter (some ⟨bl, 0, none⟩) 6 w (by omega) (by omega) (by decide) hsb ht
  have SN := Lib.hid fun w (ht : Tabs w) => sign_yes 1073741788 ⟨#[]⟩ none 0 w (by omega) (by omega) (by decide) (fun h => absurd rfl h) ht
  have VN := Lib.hid fun w (ht : Tabs w) => verify_right 1073741788 ⟨#[]⟩ none 0 w (by decide) (fun h => absurd rfl h) ht
  have hEN := sgE_lt 1073741788 ⟨#[]⟩
  have hSN := sgS_lt 1073741788 ⟨#[]⟩
  rw [show (Sq.pz 4 (5 : Nat) : Nat) = 1024 by decide +kernel] at VR
  rw [show (Sq.pz 4 (1073741788 : Nat) : Nat) = 536870895 by decide +kernel] at VN
  generalize sgE 5 bLetter = E5 at *
  generalize sgS 5 bLetter = S5 at *
  generalize sgE 1073741788 ⟨#[]⟩ = EN at *
  generalize sgS 1073741788 ⟨#[]⟩ = SN1 at *
  clear u2
  go_wp2_with fail
  refine calls_named0 ?_
  intro W2 hW2
  obtain ⟨b2, hb2⟩ : ∃ b, b = w2.heap.size := ⟨_, rfl⟩
  rw [← hb2]
  have v2 : Up w2 W2 := by rw [hW2]; exact (Up.refl w2).alloc _
  have V2 := Lib.hid v2
  have X2 : Hid (W2.heap[b2]? = some (.cells #[.int .i64 E5, .int .i64 S5] 24 (0, 0))) := by show _ = _; rw [hW2, heap_new hb2]
  clear hW2 hb2 v2
  refine (SY.out W2 (S2.out.up V2.out) (HT.out.up (Up.trans U2.out V2.out))).mono ?_
  rintro e w4 ⟨rfl, u4⟩
  have Q4 : Hid (Up W2 w4) := u4
  clear u4
  go_wp2_with fail
  refine calls_named0 ?_
  intro W4 hW4
  obtain ⟨b4, hb4⟩ : ∃ b, b = w4.heap.size := ⟨_, rfl⟩
  rw [← hb4]
  have v4 : Up w4 W4 := by rw [hW4]; exact (Up.refl w4).alloc _
  have V4 := Lib.hid v4
  have X4 : Hid (W4.heap[b4]? = some (.cells #[.int .i64 E5, .int .i64 S5] 24 (0, 0))) := by show _ = _; rw [hW4, heap_new hb4]
  clear hW4 hb4 v4
  refine (sign_no 0 _ _ (by omega)).mono ?_
  rintro e w6 ⟨rfl, u6⟩
  have Q6 : Hid (Up W4 w6) := u6
  clear u6
  go_wp2_with fail
  refine calls_named0 ?_
  intro W6 hW6
  obtain ⟨b6, hb6⟩ : ∃ b, b = w6.heap.size := ⟨_, rfl⟩
  rw [← hb6]
  have v6 : Up w6 W6 := by rw [hW6]; exact (Up.refl w6).alloc _
  have V6 := Lib.hid v6
  have X6 : Hid (W6.heap[b6]? = some (.cells #[.int .i64 0, .int .i64 0] 24 (0, 0))) := by show _ = _; rw [hW6, heap_new hb6]
  clear hW6 hb6 v6
  refine (sign_no 1073741789 _ _ (by omega)).mono ?_
  rintro e w8 ⟨rfl, u8⟩
  have Q8 : Hid (Up W6 w8) := u8
  clear u8
  go_wp2_with fail
  refine calls_named0 ?_
  intro W8 hW8
  obtain ⟨b8, hb8⟩ : ∃ b, b = w8.heap.size := ⟨_, rfl⟩
  rw [← hb8]
  have v8 : Up w8 W8 := by rw [hW8]; exact (Up.refl w8).alloc _
  have V8 := Lib.hid v8
  have X8 : Hid (W8.heap[b8]? = some (.cells #[.int .i64 0, .int .i64 0] 24 (0, 0))) := by show _ = _; rw [hW8, heap_new hb8]
  clear hW8 hb8 v8
  have P8 : Hid (Up w W8) := Up.trans U2.out (Up.trans V2.out (Up.trans Q4.out (Up.trans V4.out (Up.trans Q6.out (Up.trans V6.out (Up.trans Q8.out V8.out))))))
  refine (SN.out W8 (HT.out.up P8.out)).mono ?_
  rintro e w10 ⟨rfl, u10⟩
  have Q10 : Hid (Up W8 w10) := u10
  clear u10
  have x2 : w10.heap[b2]? = some (.cells #[.int .i64 E5, .int .i64 S5] 24 (0, 0)) := ((Up.trans Q4.out (Up.trans V4.out (Up.trans Q6.out (Up.trans V6.out (Up.trans Q8.out (Up.trans V8.out Q10.out)))))).block b2 (lt_of_block X2.out)).trans X2.out
  have x4 : w10.heap[b4]? = some (.cells #[.int .i64 E5, .int .i64 S5] 24 (0, 0)) := ((Up.trans Q6.out (Up.trans V6.out (Up.trans Q8.out (Up.trans V8.out Q10.out)))).block b4 (lt_of_block X4.out)).trans X4.out
  have lb2 : b2 < w10.heap.size := lt_of_block x2
  have lb4 : b4 < w10.heap.size := lt_of_block x4
  have k20 : w10.cell? ⟨b2, 0, none⟩ = some (.int .i64 E5) := by rw [cell_of_row w10 b2 0 _ _ _ x2]; rfl
  have k21 : w10.cell? ⟨b2, 1, none⟩ = some (.int .i64 S5) := by rw [cell_of_row w10 b2 1 _ _ _ x2]; rfl
  have k40 : w10.cell? ⟨b4, 0, none⟩ = some (.int .i64 E5) := by rw [cell_of_row w10 b4 0 _ _ _ x4]; rfl
  have k41 : w10.cell? ⟨b4, 1, none⟩ = some (.int .i64 S5) := by rw [cell_of_row w10 b4 1 _ _ _ x4]; rfl
  have X210 := Lib.hid x2
  clear x2 x4
  go_wp2_with fail
  clear k20 k21 k40 k41
  refine calls_named0 ?_
  intro W10 hW10
  obtain ⟨b10, hb10⟩ : ∃ b, b = w10.heap.size := ⟨_, rfl⟩
  obtain ⟨b12, hb12⟩ : ∃ b, b = w10.heap.size + 1 := ⟨_, rfl⟩
  rw [← hb12, ← hb10]
  have v10 : Up w10 W10 := by rw [hW10]; exact ((Up.refl w10).alloc _).alloc _
  have P10 : Hid (Up w W10) := Up.trans P8.out (Up.trans Q10.out v10)
  have A2 : Hid (W10.heap[b2]? = some (.cells #[.int .i64 E5, .int .i64 S5] 24 (0, 0))) := (v10.block b2 lb2).trans X210.out
  have A10 : Hid (W10.heap[b10]? = some (.cells #[.int .i64 EN, .int .i64 SN1] 24 (0, 0))) := by show _ = _; rw [hW10, heap_old (by rw [hb10]; simp), heap_new hb10]
  have A12 : Hid (W10.heap[b12]? = some (.cells #[.int .i64 E5, .int .i64 ((S5 : Int) + 1073741789)] 24 (0, 0))) := by show _ = _; rw [hW10, heap_new (by rw [hb12]; simp)]
  have VV := Lib.hid v10
  clear hW10 hb10 hb12 v10
  have SBT : Hid (∀ W, Up W10 W → SB W (some ⟨bl, 0, none⟩) bLetter.data.toList ∧ Tabs W) := fun W hW => by
    have a : Up w2 W := Up.trans V2.out (Up.trans Q4.out (Up.trans V4.out (Up.trans Q6.out (Up.trans V6.out (Up.trans Q8.out (Up.trans V8.out (Up.trans Q10.out (Up.trans (VV.out) hW))))))))
    exact ⟨S2.out.up a, HT.out.up (Up.trans P10.out hW)⟩
  refine (VR.out W10 (SBT.out _ (Up.refl _)).1 (SBT.out _ (Up.refl _)).2).mono ?_
  rintro e w12 ⟨rfl, u12⟩
  have R12 := Lib.hid u12
  have xb2 : w12.heap[b2]? = some (.cells #[.int .i64 E5, .int .i64 S5] 24 (0, 0)) := (u12.block b2 (lt_of_block A2.out)).trans A2.out
  have kb20 : w12.cell? ⟨b2, 0, none⟩ = some (.int .i64 E5) := by rw [cell_of_row w12 b2 0 _ _ _ xb2]; rfl
  have kb21 : w12.cell? ⟨b2, 1, none⟩ = some (.int .i64 S5) := by rw [cell_of_row w12 b2 1 _ _ _ xb2]; rfl
  have xb10 : w12.heap[b10]? = some (.cells #[.int .i64 EN, .int .i64 SN1] 24 (0, 0)) := (u12.block b10 (lt_of_block A10.out)).trans A10.out
  have kb100 : w12.cell? ⟨b10, 0, none⟩ = some (.int .i64 EN) := by rw [cell_of_row w12 b10 0 _ _ _ xb10]; rfl
  have kb101 : w12.cell? ⟨b10, 1, none⟩ = some (.int .i64 SN1) := by rw [cell_of_row w12 b10 1 _ _ _ xb10]; rfl
  have xb12 : w12.heap[b12]? = some (.cells #[.int .i64 E5, .int .i64 ((S5 : Int) + 1073741789)] 24 (0, 0)) := (u12.block b12 (lt_of_block A12.out)).trans A12.out
  have kb120 : w12.cell? ⟨b12, 0, none⟩ = some (.int .i64 E5) := by rw [cell_of_row w12 b12 0 _ _ _ xb12]; rfl
  have kb121 : w12.cell? ⟨b12, 1, none⟩ = some (.int .i64 ((S5 : Int) + 1073741789)) := by rw [cell_of_row w12 b12 1 _ _ _ xb12]; rfl
  clear xb2 xb10 xb12
  clear u12
  go_wp2_with fail
  refine (verify_key 2 E5 S5 _ _ (by omega) (by omega) (by omega) (by omega) (by decide +kernel)).mono ?_
  rintro e w14 ⟨rfl, u14⟩
  have R14 : Hid (Up W10 w14) := Up.trans R12.out u14
  clear u14 kb20 kb21 kb100 kb101 kb120 kb121
  have xb2 : w14.heap[b2]? = some (.cells #[.int .i64 E5, .int .i64 S5] 24 (0, 0)) := (R14.out.block b2 (lt_of_block A2.out)).trans A2.out
  have kb20 : w14.cell? ⟨b2, 0, none⟩ = some (.int .i64 E5) := by rw [cell_of_row w14 b2 0 _ _ _ xb2]; rfl
  have kb21 : w14.cell? ⟨b2, 1, none⟩ = some (.int .i64 S5) := by rw [cell_of_row w14 b2 1 _ _ _ xb2]; rfl
  have xb10 : w14.heap[b10]? = some (.cells #[.int .i64 EN, .int .i64 SN1] 24 (0, 0)) := (R14.out.block b10 (lt_of_block A10.out)).trans A10.out
  have kb100 : w14.cell? ⟨b10, 0, none⟩ = some (.int .i64 EN) := by rw [cell_of_row w14 b10 0 _ _ _ xb10]; rfl
  have kb101 : w14.cell? ⟨b10, 1, none⟩ = some (.int .i64 SN1) := by rw [cell_of_row w14 b10 1 _ _ _ xb10]; rfl
  have xb12 : w14.heap[b12]? = some (.cells #[.int .i64 E5, .int .i64 ((S5 : Int) + 1073741789)] 24 (0, 0)) := (R14.out.block b12 (lt_of_block A12.out)).trans A12.out
  have kb120 : w14.cell? ⟨b12, 0, none⟩ = some (.int .i64 E5) := by rw [cell_of_row w14 b12 0 _ _ _ xb12]; rfl
  have kb121 : w14.cell? ⟨b12, 1, none⟩ = some (.int .i64 ((S5 : Int) + 1073741789)) := by rw [cell_of_row w14 b12 1 _ _ _ xb12]; rfl
  clear xb2 xb10 xb12
  go_wp2_with fail
  refine (verify_out 1024 E5 (S5 + 1073741789) _ _ (by omega)).mono ?_
  rintro e w16 ⟨rfl, u16⟩
  have R16 : Hid (Up W10 w16) := Up.trans R14.out u16
  clear u16 kb20 kb21 kb100 kb101 kb120 kb121
  have xb2 : w16.heap[b2]? = some (.cells #[.int .i64 E5, .int .i64 S5] 24 (0, 0)) := (R16.out.block b2 (lt_of_block A2.out)).trans A2.out
  have kb20 : w16.cell? ⟨b2, 0, none⟩ = some (.int .i64 E5) := by rw [cell_of_row w16 b2 0 _ _ _ xb2]; rfl
  have kb21 : w16.cell? ⟨b2, 1, none⟩ = some (.int .i64 S5) := by rw [cell_of_row w16 b2 1 _ _ _ xb2]; rfl
  have xb10 : w16.heap[b10]? = some (.cells #[.int .i64 EN, .int .i64 SN1] 24 (0, 0)) := (R16.out.block b10 (lt_of_block A10.out)).trans A10.out
  have kb100 : w16.cell? ⟨b10, 0, none⟩ = some (.int .i64 EN) := by rw [cell_of_row w16 b10 0 _ _ _ xb10]; rfl
  have kb101 : w16.cell? ⟨b10, 1, none⟩ = some (.int .i64 SN1) := by rw [cell_of_row w16 b10 1 _ _ _ xb10]; rfl
  have xb12 : w16.heap[b12]? = some (.cells #[.int .i64 E5, .int .i64 ((S5 : Int) + 1073741789)] 24 (0, 0)) := (R16.out.block b12 (lt_of_block A12.out)).trans A12.out
  have kb120 : w16.cell? ⟨b12, 0, none⟩ = some (.int .i64 E5) := by rw [cell_of_row w16 b12 0 _ _ _ xb12]; rfl
  have kb121 : w16.cell? ⟨b12, 1, none⟩ = some (.int .i64 ((S5 : Int) + 1073741789)) := by rw [cell_of_row w16 b12 1 _ _ _ xb12]; rfl
  clear xb2 xb10 xb12
  go_wp2_with fail
  refine (VN.out w16 (SBT.out _ R16.out).2).mono ?_
  rintro e w18 ⟨rfl, u18⟩
  have R18 : Hid (Up W10 w18) := Up.trans R16.out u18
  clear u18 kb20 kb21 kb100 kb101 kb120 kb121
  have xb2 : w18.heap[b2]? = some (.cells #[.int .i64 E5, .int .i64 S5] 24 (0, 0)) := (R18.out.block b2 (lt_of_block A2.out)).trans A2.out
  have kb20 : w18.cell? ⟨b2, 0, none⟩ = some (.int .i64 E5) := by rw [cell_of_row w18 b2 0 _ _ _ xb2]; rfl
  have kb21 : w18.cell? ⟨b2, 1, none⟩ = some (.int .i64 S5) := by rw [cell_of_row w18 b2 1 _ _ _ xb2]; rfl
  have xb10 : w18.heap[b10]? = some (.cells #[.int .i64 EN, .int .i64 SN1] 24 (0, 0)) := (R18.out.block b10 (lt_of_block A10.out)).trans A10.out
  have kb100 : w18.cell? ⟨b10, 0, none⟩ = some (.int .i64 EN) := by rw [cell_of_row w18 b10 0 _ _ _ xb10]; rfl
  have kb101 : w18.cell? ⟨b10, 1, none⟩ = some (.int .i64 SN1) := by rw [cell_of_row w18 b10 1 _ _ _ xb10]; rfl
  have xb12 : w18.heap[b12]? = some (.cells #[.int .i64 E5, .int .i64 ((S5 : Int) + 1073741789)] 24 (0, 0)) := (R18.out.block b12 (lt_of_block A12.out)).trans A12.out
  have kb120 : w18.cell? ⟨b12, 0, none⟩ = some (.int .i64 E5) := by rw [cell_of_row w18 b12 0 _ _ _ xb12]; rfl
  have kb121 : w18.cell? ⟨b12, 1, none⟩ = some (.int .i64 ((S5 : Int) + 1073741789)) := by rw [cell_of_row w18 b12 1 _ _ _ xb12]; rfl
  clear xb2 xb10 xb12
  go_wp2_with fail
  refine (verify_key 0 EN SN1 _ _ (by omega) (by omega) (by omega) (by omega) (by decide +kernel)).mono ?_
  rintro e w20 ⟨rfl, u20⟩
  have R20 : Hid (Up W10 w20) := Up.trans R18.out u20
  clear u20 kb20 kb21 kb100 kb101 kb120 kb121
  go_wp2_with fail
  go_ret
  exact ⟨rfl, Up.trans P10.out R20.out⟩

end Go.Proofs.YthjglkpkeffmpaaDoor
