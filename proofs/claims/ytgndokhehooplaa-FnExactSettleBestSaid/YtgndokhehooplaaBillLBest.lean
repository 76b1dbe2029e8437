/- Walks of laws, written by gen_bc.py. -/
import Derived.Test.YtgndokhehooplaaSb4
set_option linter.unusedVariables false
set_option linter.unusedSimpArgs false
namespace Go.Proofs.Ytgndokhehooplaa
open Go.ChangeShapes Go.WideShapes Go.ChangeAt Go.RowKit
set_option maxHeartbeats 4000000 in
theorem walk_fnExactSettleBest (w : World) (A0 : Option Addr) (c0 : Nat) (xs0 : List Int) (h0 : RV w w.heap.size A0 (ints xs0)) (hc0 : xs0.length ≤ c0) (hm0 : c0 ≤ maxLen) :
    Calls Try.prog 7 #[.slice A0 xs0.length c0] w fun e w' => e = .returned (.bool true) ∧ Below w.heap.size w w' := by
  unfold maxLen at hm0
  by_cases l0 : xs0.length ≤ 1048576
  · go_enter Try.func7, Try.ntmps7
    have bel := Below.refl w.heap.size w
    go_wp2_with fail
    refine (toIntS_any _ _ _ _ ((RV.below h0 bel).more bel.size) l0).mono ?_
    rintro e w1 ⟨v, rfl, o, b1⟩
    obtain ⟨As0, cs0, rfl, -⟩ := own_form o
    have rs0 := OwnR.mk o
    clear o
    replace bel := below_step bel b1
    have z1 := b1.size
    go_wp2_with fail
    refine (spec_settleBest _ _ _ _ rs0.reads l0).mono ?_
    rintro e w2 ⟨v, rfl, o, b2⟩
    obtain ⟨Aw0, cw0, rfl, -⟩ := own_form o
    have rw0 := OwnR.mk o
    clear o
    replace rs0 := rs0.below b2
    replace bel := below_step bel b2
    have z2 := b2.size
    go_wp2_with fail
    refine (toIntS_any _ _ _ _ ((RV.below h0 bel).more bel.size) l0).mono ?_
    rintro e w3 ⟨v, rfl, o, b3⟩
    obtain ⟨Ax0, cx0, rfl, -⟩ := own_form o
    have rx0 := OwnR.mk o
    clear o
    replace rs0 := rs0.below b3
    replace rw0 := rw0.below b3
    replace bel := below_step bel b3
    have z3 := b3.size
    go_wp2_with fail
    refine (impl_settleBest _ _ _ _ rx0.reads l0).mono ?_
    rintro e w4 ⟨v, rfl, o, b4⟩
    obtain ⟨Ag0, cg0, rfl, -⟩ := own_form o
    have rg0 := OwnR.mk o
    clear o
    replace rs0 := rs0.below b4
    replace rw0 := rw0.below b4
    replace rx0 := rx0.below b4
    replace bel := below_step bel b4
    have z4 := b4.size
    go_wp2_with fail
    refine (eqPayS_e _ _ _ _ _ _ rg0.reads rw0.reads (settleB_len xs0 l0)).mono ?_
    rintro e w5 ⟨rfl, b5⟩
    replace rs0 := rs0.below b5
    replace rw0 := rw0.below b5
    replace rx0 := rx0.below b5
    replace rg0 := rg0.below b5
    replace bel := below_step bel b5
    have z5 := b5.size
    go_wp2_with fail
    refine (toIntS_any _ _ _ _ ((RV.below h0 bel).more bel.size) l0).mono ?_
    rintro e w6 ⟨v, rfl, o, b6⟩
    obtain ⟨Ay0, cy0, rfl, -⟩ := own_form o
    have ry0 := OwnR.mk o
    clear o
    replace rs0 := rs0.below b6
    replace rw0 := rw0.below b6
    replace rx0 := rx0.below b6
    replace rg0 := rg0.below b6
    replace bel := below_step bel b6
    have z6 := b6.size
    go_wp2_with fail
    refine (eqIntS_e _ _ _ _ _ _ rx0.reads ry0.reads l0).mono ?_
    rintro e w7 ⟨rfl, b7⟩
    replace rs0 := rs0.below b7
    replace rw0 := rw0.below b7
    replace rx0 := rx0.below b7
    replace rg0 := rg0.below b7
    replace ry0 := ry0.below b7
    replace bel := below_step bel b7
    have z7 := b7.size
    go_wp2_with fail
    refine (markIntS_r _ _ _ _ _ _ _ _ rx0 rfl l0 (by omega) (by omega)).mono ?_
    rintro e w8 ⟨rfl, r, c8⟩
    replace rs0 := rs0.chg c8 (by omega)
    replace rw0 := rw0.chg c8 (by omega)
    replace rg0 := rg0.chg c8 (by omega)
    replace ry0 := ry0.chg c8 (by omega)
    replace rx0 := r
    clear r
    replace bel := Below.chg bel c8 (by omega)
    have z8 := c8.size
    go_wp2_with fail
    refine (eqPayS_e _ _ _ _ _ _ rg0.reads rw0.reads (settleB_len xs0 l0)).mono ?_
    rintro e w9 ⟨rfl, b9⟩
    replace rs0 := rs0.below b9
    replace rw0 := rw0.below b9
    replace rx0 := rx0.below b9
    replace rg0 := rg0.below b9
    replace ry0 := ry0.below b9
    replace bel := below_step bel b9
    have z9 := b9.size
    go_wp2_with fail
    refine (markPayS_r _ _ _ _ _ _ _ _ rg0 (settleB_len xs0 l0) (by omega) (by omega)).mono ?_
    rintro e w10 ⟨rfl, r, c10⟩
    replace rs0 := rs0.chg c10 (by omega)
    replace rw0 := rw0.chg c10 (by omega)
    replace rx0 := rx0.chg c10 (by omega)
    replace ry0 := ry0.chg c10 (by omega)
    replace rg0 := r
    clear r
    replace bel := Below.chg bel c10 (by omega)
    have z10 := c10.size
    go_wp2_with fail
    refine (heldPayS_r _ _ _ _ _ _ rg0.reads (settleB_len xs0 l0) (by omega) (by omega)).mono ?_
    rintro e w' ⟨rfl, rfl⟩
    go_wp2_with fail
    refine (toIntS_any _ _ _ _ ((RV.below h0 bel).more bel.size) l0).mono ?_
    rintro e w11 ⟨v, rfl, o, b11⟩
    obtain ⟨Az0, cz0, rfl, -⟩ := own_form o
    have rz0 := OwnR.mk o
    clear o
    replace rs0 := rs0.below b11
    replace rw0 := rw0.below b11
    replace rx0 := rx0.below b11
    replace rg0 := rg0.below b11
    replace ry0 := ry0.below b11
    replace bel := below_step bel b11
    have z11 := b11.size
    go_wp2_with fail
    refine (impl_settleBest _ _ _ _ rz0.reads l0).mono ?_
    rintro e w12 ⟨v, rfl, o, b12⟩
    obtain ⟨Ah0, ch0, rfl, -⟩ := own_form o
    have rh0 := OwnR.mk o
    clear o
    replace rs0 := rs0.below b12
    replace rw0 := rw0.below b12
    replace rx0 := rx0.below b12
    replace rg0 := rg0.below b12
    replace ry0 := ry0.below b12
    replace rz0 := rz0.below b12
    replace bel := below_step bel b12
    have z12 := b12.size
    go_wp2_with fail
    refine (eqPayS_e _ _ _ _ _ _ rh0.reads rw0.reads (settleB_len xs0 l0)).mono ?_
    rintro e w13 ⟨rfl, b13⟩
    replace rs0 := rs0.below b13
    replace rw0 := rw0.below b13
    replace rx0 := rx0.below b13
    replace rg0 := rg0.below b13
    replace ry0 := ry0.below b13
    replace rz0 := rz0.below b13
    replace rh0 := rh0.below b13
    replace bel := below_step bel b13
    have z13 := b13.size
    go_wp2_with fail
    refine (heldPayS_r _ _ _ _ _ _ rg0.reads (settleB_len xs0 l0) (by omega) (by omega)).mono ?_
    rintro e w' ⟨rfl, rfl⟩
    go_wp2_with fail
    go_ret
    exact ⟨rfl, bel⟩
  · go_enter Try.func7, Try.ntmps7
    go_wp2
    go_ret
    exact ⟨rfl, Below.refl _ _⟩
end Go.Proofs.Ytgndokhehooplaa
