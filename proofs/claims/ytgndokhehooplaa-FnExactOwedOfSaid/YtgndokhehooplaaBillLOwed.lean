/- Walks of laws, written by gen_bc.py. -/
import Derived.Test.YtgndokhehooplaaOwed2
set_option linter.unusedVariables false
set_option linter.unusedSimpArgs false
namespace Go.Proofs.Ytgndokhehooplaa
open Go.ChangeShapes Go.WideShapes Go.ChangeAt Go.RowKit
set_option maxHeartbeats 4000000 in
theorem walk_fnExactOwedOf (w : World) (A0 : Option Addr) (c0 : Nat) (xs0 : List Int) (h0 : RV w w.heap.size A0 (ints xs0)) (hc0 : xs0.length ≤ c0) (hm0 : c0 ≤ maxLen) (A1 : Option Addr) (c1 : Nat) (xs1 : List Int) (h1 : RV w w.heap.size A1 (ints xs1)) (hc1 : xs1.length ≤ c1) (hm1 : c1 ≤ maxLen) :
    Calls Try.prog 6 #[.slice A0 xs0.length c0, .slice A1 xs1.length c1] w fun e w' => e = .returned (.bool true) ∧ Below w.heap.size w w' := by
  unfold maxLen at hm0
  unfold maxLen at hm1
  by_cases l0 : xs0.length ≤ 1048576
  · by_cases l1 : xs1.length ≤ 1048576
    · go_enter Try.func6, Try.ntmps6
      have bel := Below.refl w.heap.size w
      go_wp2_with fail
      refine (toIntS_any _ _ _ _ ((RV.below h0 bel).more bel.size) l0).mono ?_
      rintro e w1 ⟨v, rfl, o, b1⟩
      obtain ⟨As0, cs0, rfl, -⟩ := own_form o
      have rs0 := OwnR.mk o
      clear o
      replace bel := below_step bel b1
      have z1 := b1.size
      go_wp2_with fail
      refine (toIntS_any _ _ _ _ ((RV.below h1 bel).more bel.size) l1).mono ?_
      rintro e w2 ⟨v, rfl, o, b2⟩
      obtain ⟨As1, cs1, rfl, -⟩ := own_form o
      have rs1 := OwnR.mk o
      clear o
      replace rs0 := rs0.below b2
      replace bel := below_step bel b2
      have z2 := b2.size
      go_wp2_with fail
      refine (spec_owedOf _ _ _ _ _ _ _ rs0.reads rs1.reads l0 l1).mono ?_
      rintro e w3 ⟨v, rfl, o, b3⟩
      obtain ⟨Aw0, cw0, rfl, -⟩ := own_form o
      have rw0 := OwnR.mk o
      clear o
      replace rs0 := rs0.below b3
      replace rs1 := rs1.below b3
      replace bel := below_step bel b3
      have z3 := b3.size
      go_wp2_with fail
      refine (toIntS_any _ _ _ _ ((RV.below h0 bel).more bel.size) l0).mono ?_
      rintro e w4 ⟨v, rfl, o, b4⟩
      obtain ⟨Ax0, cx0, rfl, -⟩ := own_form o
      have rx0 := OwnR.mk o
      clear o
      replace rs0 := rs0.below b4
      replace rs1 := rs1.below b4
      replace rw0 := rw0.below b4
      replace bel := below_step bel b4
      have z4 := b4.size
      go_wp2_with fail
      refine (toIntS_any _ _ _ _ ((RV.below h1 bel).more bel.size) l1).mono ?_
      rintro e w5 ⟨v, rfl, o, b5⟩
      obtain ⟨Ax1, cx1, rfl, -⟩ := own_form o
      have rx1 := OwnR.mk o
      clear o
      replace rs0 := rs0.below b5
      replace rs1 := rs1.below b5
      replace rw0 := rw0.below b5
      replace rx0 := rx0.below b5
      replace bel := below_step bel b5
      have z5 := b5.size
      go_wp2_with fail
      refine (impl_owedOf _ _ _ _ _ _ _ rx0.reads rx1.reads l0 l1).mono ?_
      rintro e w6 ⟨v, rfl, o, b6⟩
      obtain ⟨Ag0, cg0, rfl, -⟩ := own_form o
      have rg0 := OwnR.mk o
      clear o
      replace rs0 := rs0.below b6
      replace rs1 := rs1.below b6
      replace rw0 := rw0.below b6
      replace rx0 := rx0.below b6
      replace rx1 := rx1.below b6
      replace bel := below_step bel b6
      have z6 := b6.size
      go_wp2_with fail
      refine (eqIntS_e _ _ _ _ _ _ rg0.reads rw0.reads (by have := owedF_len xs0 xs1; omega)).mono ?_
      rintro e w7 ⟨rfl, b7⟩
      replace rs0 := rs0.below b7
      replace rs1 := rs1.below b7
      replace rw0 := rw0.below b7
      replace rx0 := rx0.below b7
      replace rx1 := rx1.below b7
      replace rg0 := rg0.below b7
      replace bel := below_step bel b7
      have z7 := b7.size
      go_wp2_with fail
      refine (toIntS_any _ _ _ _ ((RV.below h0 bel).more bel.size) l0).mono ?_
      rintro e w8 ⟨v, rfl, o, b8⟩
      obtain ⟨Ay0, cy0, rfl, -⟩ := own_form o
      have ry0 := OwnR.mk o
      clear o
      replace rs0 := rs0.below b8
      replace rs1 := rs1.below b8
      replace rw0 := rw0.below b8
      replace rx0 := rx0.below b8
      replace rx1 := rx1.below b8
      replace rg0 := rg0.below b8
      replace bel := below_step bel b8
      have z8 := b8.size
      go_wp2_with fail
      refine (eqIntS_e _ _ _ _ _ _ rx0.reads ry0.reads l0).mono ?_
      rintro e w9 ⟨rfl, b9⟩
      replace rs0 := rs0.below b9
      replace rs1 := rs1.below b9
      replace rw0 := rw0.below b9
      replace rx0 := rx0.below b9
      replace rx1 := rx1.below b9
      replace rg0 := rg0.below b9
      replace ry0 := ry0.below b9
      replace bel := below_step bel b9
      have z9 := b9.size
      go_wp2_with fail
      refine (toIntS_any _ _ _ _ ((RV.below h1 bel).more bel.size) l1).mono ?_
      rintro e w10 ⟨v, rfl, o, b10⟩
      obtain ⟨Ay1, cy1, rfl, -⟩ := own_form o
      have ry1 := OwnR.mk o
      clear o
      replace rs0 := rs0.below b10
      replace rs1 := rs1.below b10
      replace rw0 := rw0.below b10
      replace rx0 := rx0.below b10
      replace rx1 := rx1.below b10
      replace rg0 := rg0.below b10
      replace ry0 := ry0.below b10
      replace bel := below_step bel b10
      have z10 := b10.size
      go_wp2_with fail
      refine (eqIntS_e _ _ _ _ _ _ rx1.reads ry1.reads l1).mono ?_
      rintro e w11 ⟨rfl, b11⟩
      replace rs0 := rs0.below b11
      replace rs1 := rs1.below b11
      replace rw0 := rw0.below b11
      replace rx0 := rx0.below b11
      replace rx1 := rx1.below b11
      replace rg0 := rg0.below b11
      replace ry0 := ry0.below b11
      replace ry1 := ry1.below b11
      replace bel := below_step bel b11
      have z11 := b11.size
      go_wp2_with fail
      refine (markIntS_r _ _ _ _ _ _ _ _ rx0 rfl l0 (by omega) (by omega)).mono ?_
      rintro e w12 ⟨rfl, r, c12⟩
      replace rs0 := rs0.chg c12 (by omega)
      replace rs1 := rs1.chg c12 (by omega)
      replace rw0 := rw0.chg c12 (by omega)
      replace rx1 := rx1.chg c12 (by omega)
      replace rg0 := rg0.chg c12 (by omega)
      replace ry0 := ry0.chg c12 (by omega)
      replace ry1 := ry1.chg c12 (by omega)
      replace rx0 := r
      clear r
      replace bel := Below.chg bel c12 (by omega)
      have z12 := c12.size
      go_wp2_with fail
      refine (markIntS_r _ _ _ _ _ _ _ _ rx1 rfl l1 (by omega) (by omega)).mono ?_
      rintro e w13 ⟨rfl, r, c13⟩
      replace rs0 := rs0.chg c13 (by omega)
      replace rs1 := rs1.chg c13 (by omega)
      replace rw0 := rw0.chg c13 (by omega)
      replace rx0 := rx0.chg c13 (by omega)
      replace rg0 := rg0.chg c13 (by omega)
      replace ry0 := ry0.chg c13 (by omega)
      replace ry1 := ry1.chg c13 (by omega)
      replace rx1 := r
      clear r
      replace bel := Below.chg bel c13 (by omega)
      have z13 := c13.size
      go_wp2_with fail
      refine (eqIntS_e _ _ _ _ _ _ rg0.reads rw0.reads (by have := owedF_len xs0 xs1; omega)).mono ?_
      rintro e w14 ⟨rfl, b14⟩
      replace rs0 := rs0.below b14
      replace rs1 := rs1.below b14
      replace rw0 := rw0.below b14
      replace rx0 := rx0.below b14
      replace rx1 := rx1.below b14
      replace rg0 := rg0.below b14
      replace ry0 := ry0.below b14
      replace ry1 := ry1.below b14
      replace bel := below_step bel b14
      have z14 := b14.size
      go_wp2_with fail
      refine (markIntS_r _ _ _ _ _ _ _ _ rg0 rfl (by have := owedF_len xs0 xs1; omega) (by omega) (by omega)).mono ?_
      rintro e w15 ⟨rfl, r, c15⟩
      replace rs0 := rs0.chg c15 (by omega)
      replace rs1 := rs1.chg c15 (by omega)
      replace rw0 := rw0.chg c15 (by omega)
      replace rx0 := rx0.chg c15 (by omega)
      replace rx1 := rx1.chg c15 (by omega)
      replace ry0 := ry0.chg c15 (by omega)
      replace ry1 := ry1.chg c15 (by omega)
      replace rg0 := r
      clear r
      replace bel := Below.chg bel c15 (by omega)
      have z15 := c15.size
      go_wp2_with fail
      refine (heldIntS_r _ _ _ _ _ _ rg0.reads (by have := owedF_len xs0 xs1; omega) (by omega) (by omega)).mono ?_
      rintro e w' ⟨rfl, rfl⟩
      go_wp2_with fail
      refine (toIntS_any _ _ _ _ ((RV.below h0 bel).more bel.size) l0).mono ?_
      rintro e w16 ⟨v, rfl, o, b16⟩
      obtain ⟨Az0, cz0, rfl, -⟩ := own_form o
      have rz0 := OwnR.mk o
      clear o
      replace rs0 := rs0.below b16
      replace rs1 := rs1.below b16
      replace rw0 := rw0.below b16
      replace rx0 := rx0.below b16
      replace rx1 := rx1.below b16
      replace rg0 := rg0.below b16
      replace ry0 := ry0.below b16
      replace ry1 := ry1.below b16
      replace bel := below_step bel b16
      have z16 := b16.size
      go_wp2_with fail
      refine (toIntS_any _ _ _ _ ((RV.below h1 bel).more bel.size) l1).mono ?_
      rintro e w17 ⟨v, rfl, o, b17⟩
      obtain ⟨Az1, cz1, rfl, -⟩ := own_form o
      have rz1 := OwnR.mk o
      clear o
      replace rs0 := rs0.below b17
      replace rs1 := rs1.below b17
      replace rw0 := rw0.below b17
      replace rx0 := rx0.below b17
      replace rx1 := rx1.below b17
      replace rg0 := rg0.below b17
      replace ry0 := ry0.below b17
      replace ry1 := ry1.below b17
      replace rz0 := rz0.below b17
      replace bel := below_step bel b17
      have z17 := b17.size
      go_wp2_with fail
      refine (impl_owedOf _ _ _ _ _ _ _ rz0.reads rz1.reads l0 l1).mono ?_
      rintro e w18 ⟨v, rfl, o, b18⟩
      obtain ⟨Ah0, ch0, rfl, -⟩ := own_form o
      have rh0 := OwnR.mk o
      clear o
      replace rs0 := rs0.below b18
      replace rs1 := rs1.below b18
      replace rw0 := rw0.below b18
      replace rx0 := rx0.below b18
      replace rx1 := rx1.below b18
      replace rg0 := rg0.below b18
      replace ry0 := ry0.below b18
      replace ry1 := ry1.below b18
      replace rz0 := rz0.below b18
      replace rz1 := rz1.below b18
      replace bel := below_step bel b18
      have z18 := b18.size
      go_wp2_with fail
      refine (eqIntS_e _ _ _ _ _ _ rh0.reads rw0.reads (by have := owedF_len xs0 xs1; omega)).mono ?_
      rintro e w19 ⟨rfl, b19⟩
      replace rs0 := rs0.below b19
      replace rs1 := rs1.below b19
      replace rw0 := rw0.below b19
      replace rx0 := rx0.below b19
      replace rx1 := rx1.below b19
      replace rg0 := rg0.below b19
      replace ry0 := ry0.below b19
      replace ry1 := ry1.below b19
      replace rz0 := rz0.below b19
      replace rz1 := rz1.below b19
      replace rh0 := rh0.below b19
      replace bel := below_step bel b19
      have z19 := b19.size
      go_wp2_with fail
      refine (heldIntS_r _ _ _ _ _ _ rg0.reads (by have := owedF_len xs0 xs1; omega) (by omega) (by omega)).mono ?_
      rintro e w' ⟨rfl, rfl⟩
      go_wp2_with fail
      go_ret
      exact ⟨rfl, bel⟩
    · go_enter Try.func6, Try.ntmps6
      go_wp2
      go_ret
      exact ⟨rfl, Below.refl _ _⟩
  · go_enter Try.func6, Try.ntmps6
    go_wp2
    go_ret
    exact ⟨rfl, Below.refl _ _⟩
end Go.Proofs.Ytgndokhehooplaa
