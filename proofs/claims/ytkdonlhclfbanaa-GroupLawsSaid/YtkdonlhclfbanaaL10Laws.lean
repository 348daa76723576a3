/- The walks of acequialaw10.GroupLaws and GroupPowers: for all numbers they return true and turn nothing that was there. -/
import Derived.Test.YtkdonlhclfbanaaSane10
namespace Go.Proofs.Ytkdonlhclfbanaa
open Go.RowKit Go.Shelf

/-- what the law's mul answers at two elements -/
def MulC (x y z : Int) : Prop := ∀ (b : Nat) (w : World), w.cell? ⟨b, 0, none⟩ = some (.int .i64 x) → w.cell? ⟨b, 1, none⟩ = some (.int .i64 y) →
  Calls Try.prog 16 #[.slice (some ⟨b, 0, none⟩) 2 2] w fun e w' => e = .returned (.int .i64 z) ∧ w = w'
/-- what the law's pow answers at an element -/
def PowC (x n z : Int) : Prop := ∀ (w : World), Calls Try.prog 17 #[.int .i64 x, .int .i64 n] w fun e w' => e = .returned (.int .i64 z) ∧ Up w w'
def ElC (x z : Int) : Prop := ∀ (w : World), Calls Try.prog 15 #[.int .i64 x] w fun e w' => e = .returned (.int .i64 z) ∧ w = w'
def VaC (x : Int) : Prop := ∀ (w : World), Calls Try.prog 13 #[.int .i64 x] w fun e w' => e = .returned (.bool true) ∧ w = w'

theorem mulC {x y z : Int} (hx : elz x = true) (hy : elz y = true) (hz : x * y % 2147483579 = z) : Hid (MulC x y z) := fun b w h0 h1 => by
  rw [← hz]; exact mul_law b x y w hx hy h0 h1
theorem powC {x n z : Int} (hx : elz x = true) (hz : (Sq.pz x.toNat n : Nat) = z) : Hid (PowC x n z) := fun w => by
  rw [← hz]; exact pow_law n w hx
theorem elC {x z : Int} (hz : elem x = z) : Hid (ElC x z) := fun w => by rw [← hz]; exact element_law x w
theorem vaC {x : Int} (hx : elz x = true) : Hid (VaC x) := fun w => valid_yes w hx

/-- an element as a natural number -/
theorem el_nat {x : Int} (h : elz x = true) : ∃ a : Nat, x = a ∧ Sq.el a = true := by
  have hr := elz_range h
  exact ⟨x.toNat, by omega, h⟩

theorem cast_mul (a b : Nat) : ((a : Int) * b % 2147483579) = ((a * b % 2147483579 : Nat) : Int) := by simp

/-- The laws of the group, at numbers. -/
structure Facts (a b c ab bc abc ia ib iab : Int) : Prop where
  va : elz a = true
  vb : elz b = true
  vc : elz c = true
  vab : elz ab = true
  vbc : elz bc = true
  via : elz ia = true
  vib : elz ib = true
  mab : a * b % 2147483579 = ab
  mba : b * a % 2147483579 = ab
  mbc : b * c % 2147483579 = bc
  mabc1 : ab * c % 2147483579 = abc
  mabc2 : a * bc % 2147483579 = abc
  ma1 : a * 1 % 2147483579 = a
  pa : ((Sq.pz a.toNat (-1) : Nat) : Int) = ia
  pb : ((Sq.pz b.toNat (-1) : Nat) : Int) = ib
  pab : ((Sq.pz ab.toNat (-1) : Nat) : Int) = iab
  maa : a * ia % 2147483579 = 1
  mabb : ab * ib % 2147483579 = a
  mii : ia * ib % 2147483579 = iab

theorem facts {a b c : Int} (va : elz a = true) (vb : elz b = true) (vc : elz c = true) : ∃ ab bc abc ia ib iab, Facts a b c ab bc abc ia ib iab := by
  obtain ⟨x, rfl, hx⟩ := el_nat va
  obtain ⟨y, rfl, hy⟩ := el_nat vb
  obtain ⟨z, rfl, hz⟩ := el_nat vc
  have rx := Sq.el_ne hx
  refine ⟨(x * y % 2147483579 : Nat), (y * z % 2147483579 : Nat), (x * y % 2147483579 * z % 2147483579 : Nat), (Sq.pz x (-1) : Nat), (Sq.pz y (-1) : Nat), (Sq.pz (x * y % 2147483579) (-1) : Nat), ?_⟩
  constructor
  · exact va
  · exact vb
  · exact vc
  · rw [elz_nat]; exact Sq.el_mul hx hy
  · rw [elz_nat]; exact Sq.el_mul hy hz
  · rw [elz_nat]; exact Sq.el_pz hx _
  · rw [elz_nat]; exact Sq.el_pz hy _
  · exact cast_mul x y
  · rw [cast_mul, Nat.mul_comm]
  · exact cast_mul y z
  · exact cast_mul (x * y % 2147483579) z
  · have e : x * (y * z % 2147483579) % 2147483579 = x * y % 2147483579 * z % 2147483579 := by rw [Nat.mul_mod_mod, Nat.mod_mul_mod, Nat.mul_assoc]
    rw [cast_mul, e]
  · omega
  · rw [Int.toNat_natCast]
  · rw [Int.toNat_natCast]
  · rw [Int.toNat_natCast]
  · rw [cast_mul, Sq.pz_inv hx]; rfl
  · have e : x * y % 2147483579 * Sq.pz y (-1) % 2147483579 = x := by
      rw [Nat.mod_mul_mod, Nat.mul_assoc, Nat.mul_mod, Sq.pz_inv hy, Nat.mul_one, Nat.mod_mod, Nat.mod_eq_of_lt rx.2]
    rw [cast_mul, e]
  · rw [cast_mul, Sq.pz_prod]

set_option maxRecDepth 100000 in
set_option maxHeartbeats 2000000 in
theorem GroupLaws_walk (x y z : Int) (w : World) (_ : -9223372036854775808 ≤ x) (_ : x ≤ 9223372036854775807) (_ : -9223372036854775808 ≤ y) (_ : y ≤ 9223372036854775807) (_ : -9223372036854775808 ≤ z) (_ : z ≤ 9223372036854775807) :
    Calls Try.prog 4 #[.int .i64 x, .int .i64 y, .int .i64 z] w fun e w' => e = .returned (.bool true) ∧ Below w.heap.size w w' := by
  obtain ⟨a, ha⟩ : ∃ a, elem x = a := ⟨_, rfl⟩
  obtain ⟨b, hb⟩ : ∃ a, elem y = a := ⟨_, rfl⟩
  obtain ⟨c, hc⟩ : ∃ a, elem z = a := ⟨_, rfl⟩
  obtain ⟨ab, bc, abc, ia, ib, iab, F⟩ := facts (a := a) (b := b) (c := c) (by rw [← ha]; exact elz_elem x) (by rw [← hb]; exact elz_elem y) (by rw [← hc]; exact elz_elem z)
  have E1 := elC ha
  have E2 := elC hb
  have E3 := elC hc
  have Mab := mulC F.va F.vb F.mab
  have Va := vaC F.va
  have Vab := vaC F.vab
  have Mba := mulC F.vb F.va F.mba
  have Mabc1 := mulC F.vab F.vc F.mabc1
  have Mbc := mulC F.vb F.vc F.mbc
  have Mabc2 := mulC F.va F.vbc F.mabc2
  have Ma1 := mulC F.va el1 F.ma1
  have Pa := powC F.va F.pa
  have Pb := powC F.vb F.pb
  have Pab := powC F.vab F.pab
  have Maa := mulC F.va F.via F.maa
  have Mabb := mulC F.vab F.vib F.mabb
  have Mii := mulC F.via F.vib F.mii
  clear F ha hb hc
  go_enter Try.func4, Try.ntmps4
  go_wp2_with fail
  refine (sane_calls _).mono ?_
  rintro e w1 ⟨rfl, b1⟩
  replace b1 : Up _ _ := b1
  go_wp2_with fail
  refine (E1.out _).mono ?_
  rintro e w0 ⟨rfl, rfl⟩
  go_wp2_with fail
  refine (E2.out _).mono ?_
  rintro e w0 ⟨rfl, rfl⟩
  go_wp2_with fail
  refine (E3.out _).mono ?_
  rintro e w0 ⟨rfl, rfl⟩
  go_wp2_with fail
  refine (Mab.out _ _ ?_ ?_).mono ?_
  · simp [go_sem]
  · simp [go_sem]
  rintro e w0 ⟨rfl, rfl⟩
  go_wp2_with fail
  refine (Va.out _).mono ?_
  rintro e w0 ⟨rfl, rfl⟩
  go_wp2_with fail
  refine (Vab.out _).mono ?_
  rintro e w0 ⟨rfl, rfl⟩
  go_wp2_with fail
  refine (Mba.out _ _ ?_ ?_).mono ?_
  · simp [go_sem]
  · simp [go_sem]
  rintro e w0 ⟨rfl, rfl⟩
  go_wp2_with fail
  refine (Mabc1.out _ _ ?_ ?_).mono ?_
  · simp [go_sem]
  · simp [go_sem]
  rintro e w0 ⟨rfl, rfl⟩
  go_wp2_with fail
  refine (Mbc.out _ _ ?_ ?_).mono ?_
  · simp [go_sem]
  · simp [go_sem]
  rintro e w0 ⟨rfl, rfl⟩
  go_wp2_with fail
  refine (Mabc2.out _ _ ?_ ?_).mono ?_
  · simp [go_sem]
  · simp [go_sem]
  rintro e w0 ⟨rfl, rfl⟩
  go_wp2_with fail
  refine (Ma1.out _ _ ?_ ?_).mono ?_
  · simp [go_sem]
  · simp [go_sem]
  rintro e w0 ⟨rfl, rfl⟩
  go_wp2_with fail
  refine (Pa.out _).mono ?_
  rintro e w2 ⟨rfl, b2⟩
  go_wp2_with fail
  refine (Maa.out _ _ ?_ ?_).mono ?_
  · simp [go_sem]
  · simp [go_sem]
  rintro e w0 ⟨rfl, rfl⟩
  go_wp2_with fail
  refine (Mab.out _ _ ?_ ?_).mono ?_
  · simp [go_sem]
  · simp [go_sem]
  rintro e w0 ⟨rfl, rfl⟩
  go_wp2_with fail
  refine (Pb.out _).mono ?_
  rintro e w3 ⟨rfl, b3⟩
  go_wp2_with fail
  refine (Mabb.out _ _ ?_ ?_).mono ?_
  · simp [go_sem]
  · simp [go_sem]
  rintro e w0 ⟨rfl, rfl⟩
  go_wp2_with fail
  refine (Pab.out _).mono ?_
  rintro e w4 ⟨rfl, b4⟩
  go_wp2_with fail
  refine (Pa.out _).mono ?_
  rintro e w5 ⟨rfl, b5⟩
  go_wp2_with fail
  refine (Pb.out _).mono ?_
  rintro e w6 ⟨rfl, b6⟩
  go_wp2_with fail
  refine (Mii.out _ _ ?_ ?_).mono ?_
  · simp [go_sem]
  · simp [go_sem]
  rintro e w0 ⟨rfl, rfl⟩
  go_wp2_with fail
  go_ret
  refine ⟨rfl, Up.below ?_⟩
  repeat (first | exact Up.refl _ | refine Up.alloc ?_ _ | exact b1 | refine Up.trans ?_ b2 | refine Up.trans ?_ b3 | refine Up.trans ?_ b4 | refine Up.trans ?_ b5 | refine Up.trans ?_ b6)

/-- The laws of powers, at numbers. -/
structure PFacts (a b i k ab p2 pi pk pik ppik pabi pbi : Int) : Prop where
  va : elz a = true
  vb : elz b = true
  vab : elz ab = true
  vpi : elz pi = true
  vpk : elz pk = true
  vpbi : elz pbi = true
  mab : a * b % 2147483579 = ab
  fp0 : ((Sq.pz a.toNat 0 : Nat) : Int) = 1
  fp1 : ((Sq.pz a.toNat 1 : Nat) : Int) = a
  fp2 : ((Sq.pz a.toNat 2 : Nat) : Int) = p2
  fm2 : a * a % 2147483579 = p2
  fpQ : ((Sq.pz a.toNat 1073741789 : Nat) : Int) = 1
  fpiq : ((Sq.pz a.toNat (i + 1073741789) : Nat) : Int) = pi
  fpi : ((Sq.pz a.toNat i : Nat) : Int) = pi
  fpij : ((Sq.pz a.toNat (i - 1073741789) : Nat) : Int) = pi
  fpk : ((Sq.pz a.toNat k : Nat) : Int) = pk
  fmik : pi * pk % 2147483579 = pik
  fpik : ((Sq.pz a.toNat (i + k) : Nat) : Int) = pik
  fppik : ((Sq.pz pi.toNat k : Nat) : Int) = ppik
  fpixk : ((Sq.pz a.toNat (i * k) : Nat) : Int) = ppik
  fpabi : ((Sq.pz ab.toNat i : Nat) : Int) = pabi
  fpbi : ((Sq.pz b.toNat i : Nat) : Int) = pbi
  fmabi : pi * pbi % 2147483579 = pabi

theorem pfacts {a b : Int} (i k : Int) (va : elz a = true) (vb : elz b = true) : ∃ ab p2 pi pk pik ppik pabi pbi, PFacts a b i k ab p2 pi pk pik ppik pabi pbi := by
  obtain ⟨x, rfl, hx⟩ := el_nat va
  obtain ⟨y, rfl, hy⟩ := el_nat vb
  have rx := Sq.el_ne hx
  refine ⟨(x * y % 2147483579 : Nat), (x * x % 2147483579 : Nat), (Sq.pz x i : Nat), (Sq.pz x k : Nat), (Sq.pz x (i + k) : Nat), (Sq.pz x (i * k) : Nat), (Sq.pz (x * y % 2147483579) i : Nat), (Sq.pz y i : Nat), ?_⟩
  constructor
  · exact va
  · exact vb
  · rw [elz_nat]; exact Sq.el_mul hx hy
  · rw [elz_nat]; exact Sq.el_pz hx _
  · rw [elz_nat]; exact Sq.el_pz hx _
  · rw [elz_nat]; exact Sq.el_pz hy _
  · exact cast_mul x y
  · rw [Sq.pz_0]; rfl
  · rw [Int.toNat_natCast, Sq.pz_1 rx.2]
  · rw [Int.toNat_natCast, Sq.pz_2 hx]
  · exact cast_mul x x
  · rw [Sq.pz_Q]; rfl
  · have := Sq.pz_shift x i 1
    rw [Int.toNat_natCast, ← this]; rfl
  · rw [Int.toNat_natCast]
  · have := Sq.pz_shift x (i - 1073741789) 1
    rw [Int.toNat_natCast, ← this]; congr 2; omega
  · rw [Int.toNat_natCast]
  · rw [cast_mul, Sq.pz_add hx]
  · rw [Int.toNat_natCast]
  · rw [Int.toNat_natCast, Sq.pz_mul hx]
  · rw [Int.toNat_natCast]
  · rw [Int.toNat_natCast]
  · rw [Int.toNat_natCast]
  · rw [cast_mul, Sq.pz_prod]

theorem mul32 {i k : Int} (hi : -2147483648 ≤ i) (hi' : i ≤ 2147483647) (hk : -2147483648 ≤ k) (hk' : k ≤ 2147483647) : -4611686018427387904 ≤ i * k ∧ i * k ≤ 4611686018427387904 := by
  have h1 : i.natAbs ≤ 2147483648 := by omega
  have h2 : k.natAbs ≤ 2147483648 := by omega
  have h3 : (i * k).natAbs ≤ 2147483648 * 2147483648 := by rw [Int.natAbs_mul]; exact Nat.mul_le_mul h1 h2
  omega

set_option maxRecDepth 100000 in
set_option maxHeartbeats 2000000 in
theorem GroupPowers_walk (x y i k : Int) (w : World) (_ : -9223372036854775808 ≤ x) (_ : x ≤ 9223372036854775807) (_ : -9223372036854775808 ≤ y) (_ : y ≤ 9223372036854775807)
    (hi : -2147483648 ≤ i) (hi' : i ≤ 2147483647) (hk : -2147483648 ≤ k) (hk' : k ≤ 2147483647) :
    Calls Try.prog 5 #[.int .i64 x, .int .i64 y, .int .i32 i, .int .i32 k] w fun e w' => e = .returned (.bool true) ∧ Below w.heap.size w w' := by
  obtain ⟨a, ha⟩ : ∃ a, elem x = a := ⟨_, rfl⟩
  obtain ⟨b, hb⟩ : ∃ a, elem y = a := ⟨_, rfl⟩
  obtain ⟨ab, p2, pi, pk, pik, ppik, pabi, pbi, F⟩ := pfacts (a := a) (b := b) i k (by rw [← ha]; exact elz_elem x) (by rw [← hb]; exact elz_elem y)
  have hm := mul32 hi hi' hk hk'
  have hw : wrap64 (i * k) = i * k := wrap64_id (by omega) (by omega)
  have E1 := elC ha
  have E2 := elC hb
  have P0 := powC F.va F.fp0
  have P1 := powC F.va F.fp1
  have P2 := powC F.va F.fp2
  have M2 := mulC F.va F.va F.fm2
  have PQ := powC F.va F.fpQ
  have Piq := powC F.va F.fpiq
  have Pi := powC F.va F.fpi
  have Pij := powC F.va F.fpij
  have Pk := powC F.va F.fpk
  have Mik := mulC F.vpi F.vpk F.fmik
  have Pik := powC F.va F.fpik
  have Ppik := powC F.vpi F.fppik
  have Pixk := powC F.va F.fpixk
  have Mab := mulC F.va F.vb F.mab
  have Pabi := powC F.vab F.fpabi
  have Pbi := powC F.vb F.fpbi
  have Mabi := mulC F.vpi F.vpbi F.fmabi
  clear F ha hb hm
  go_enter Try.func5, Try.ntmps5
  go_wp2_with fail
  refine (sane_calls _).mono ?_
  rintro e w1 ⟨rfl, b1⟩
  replace b1 : Up _ _ := b1
  go_wp2_with fail
  refine (E1.out _).mono ?_
  rintro e w0 ⟨rfl, rfl⟩
  go_wp2_with fail
  refine (E2.out _).mono ?_
  rintro e w0 ⟨rfl, rfl⟩
  go_wp2_with fail
  refine (P0.out _).mono ?_
  rintro e w2 ⟨rfl, b2⟩
  go_wp2_with fail
  refine (P1.out _).mono ?_
  rintro e w3 ⟨rfl, b3⟩
  go_wp2_with fail
  refine (P2.out _).mono ?_
  rintro e w4 ⟨rfl, b4⟩
  go_wp2_with fail
  refine (M2.out _ _ ?_ ?_).mono ?_
  · simp [go_sem]
  · simp [go_sem]
  rintro e w0 ⟨rfl, rfl⟩
  go_wp2_with fail
  refine (PQ.out _).mono ?_
  rintro e w5 ⟨rfl, b5⟩
  go_wp2_with fail
  refine (Piq.out _).mono ?_
  rintro e w6 ⟨rfl, b6⟩
  go_wp2_with fail
  refine (Pi.out _).mono ?_
  rintro e w7 ⟨rfl, b7⟩
  go_wp2_with fail
  refine (Pij.out _).mono ?_
  rintro e w8 ⟨rfl, b8⟩
  go_wp2_with fail
  refine (Pi.out _).mono ?_
  rintro e w9 ⟨rfl, b9⟩
  go_wp2_with fail
  refine (Pi.out _).mono ?_
  rintro e w10 ⟨rfl, b10⟩
  go_wp2_with fail
  refine (Pk.out _).mono ?_
  rintro e w11 ⟨rfl, b11⟩
  go_wp2_with fail
  refine (Mik.out _ _ ?_ ?_).mono ?_
  · simp [go_sem]
  · simp [go_sem]
  rintro e w0 ⟨rfl, rfl⟩
  go_wp2_with fail
  refine (Pik.out _).mono ?_
  rintro e w12 ⟨rfl, b12⟩
  go_wp2_with fail
  refine (Pi.out _).mono ?_
  rintro e w13 ⟨rfl, b13⟩
  go_wp2_with fail
  refine (Ppik.out _).mono ?_
  rintro e w14 ⟨rfl, b14⟩
  go_wp2_with fail
  refine (Pixk.out _).mono ?_
  rintro e w15 ⟨rfl, b15⟩
  go_wp2_with fail
  refine (Mab.out _ _ ?_ ?_).mono ?_
  · simp [go_sem]
  · simp [go_sem]
  rintro e w0 ⟨rfl, rfl⟩
  go_wp2_with fail
  refine (Pabi.out _).mono ?_
  rintro e w16 ⟨rfl, b16⟩
  go_wp2_with fail
  refine (Pi.out _).mono ?_
  rintro e w17 ⟨rfl, b17⟩
  go_wp2_with fail
  refine (Pbi.out _).mono ?_
  rintro e w18 ⟨rfl, b18⟩
  go_wp2_with fail
  refine (Mabi.out _ _ ?_ ?_).mono ?_
  · simp [go_sem]
  · simp [go_sem]
  rintro e w0 ⟨rfl, rfl⟩
  go_wp2_with fail
  go_ret
  refine ⟨rfl, Up.below ?_⟩
  repeat (first | exact Up.refl _ | refine Up.alloc ?_ _ | exact b1 | refine Up.trans ?_ b2 | refine Up.trans ?_ b3 | refine Up.trans ?_ b4 | refine Up.trans ?_ b5 | refine Up.trans ?_ b6 | refine Up.trans ?_ b7 | refine Up.trans ?_ b8 | refine Up.trans ?_ b9 | refine Up.trans ?_ b10 | refine Up.trans ?_ b11 | refine Up.trans ?_ b12 | refine Up.trans ?_ b13 | refine Up.trans ?_ b14 | refine Up.trans ?_ b15 | refine Up.trans ?_ b16 | refine Up.trans ?_ b17 | refine Up.trans ?_ b18)

end Go.Proofs.Ytkdonlhclfbanaa
