/- Walks of laws, written by gen_bc.py. -/
import Derived.Test.YtgndokhehooplaaLeast
set_option linter.unusedVariables false
set_option linter.unusedSimpArgs false
namespace Go.Proofs.Ytgndokhehooplaa
open Go.ChangeShapes Go.WideShapes Go.ChangeAt Go.RowKit
set_option maxHeartbeats 4000000 in
theorem walk_fnExactSettleLeast (w : World) (A0 : Option Addr) (c0 : Nat) (xs0 : List Int) (h0 : RV w w.heap.size A0 (ints xs0)) (hc0 : xs0.length ≤ c0) (hm0 : c0 ≤ maxLen) :
    Calls Try.prog 4 #[.slice A0 xs0.length c0] w fun e w' => e = .returned (.bool true) ∧ Below w.heap.size w w' := by
  unfold maxLen at hm0
  by_cases l0 : xs0.length ≤ 1048576
  · go_enter Try.func4, Try.ntmps4
    have bel := Below.refl w.heap.size w
    go_wp2_with fail
    refine (toIntS_any _ _ _ _ ((RV.below h0 bel).more bel.size) l0).mono ?_
    rintro e w1 ⟨v, rfl, o, b1⟩
    obtain ⟨As0, cs0, rfl, -⟩ := own_form o
    have rs0 := OwnR.mk o
    clear o
    replace bel := below_step bel b1
    have z1 := b1.size
    go_wp2_with fail
    refine (spec_settleLeast _ _ _ _ rs0.reads l0).mono ?_
    rintro e w2 ⟨rfl, b2⟩
    replace rs0 := rs0.below b2
    replace bel := below_step bel b2
    have z2 := b2.size
    go_wp2_with fail
    refine (toIntS_any _ _ _ _ ((RV.below h0 bel).more bel.size) l0).mono ?_
    rintro e w3 ⟨v, rfl, o, b3⟩
    obtain ⟨Ax0, cx0, rfl, -⟩ := own_form o
    have rx0 := OwnR.mk o
    clear o
    replace rs0 := rs0.below b3
    replace bel := below_step bel b3
    have z3 := b3.size
    go_wp2_with fail
    refine (impl_settleLeast _ _ _ _ rx0.reads l0).mono ?_
    rintro e w4 ⟨rfl, b4⟩
    replace rs0 := rs0.below b4
    replace rx0 := rx0.below b4
    replace bel := below_step bel b4
    have z4 := b4.size
    go_wp2_with fail
    refine (toIntS_any _ _ _ _ ((RV.below h0 bel).more bel.size) l0).mono ?_
    rintro e w5 ⟨v, rfl, o, b5⟩
    obtain ⟨Ay0, cy0, rfl, -⟩ := own_form o
    have ry0 := OwnR.mk o
    clear o
    replace rs0 := rs0.below b5
    replace rx0 := rx0.below b5
    replace bel := below_step bel b5
    have z5 := b5.size
    go_wp2_with fail
    refine (eqIntS_e _ _ _ _ _ _ rx0.reads ry0.reads l0).mono ?_
    rintro e w6 ⟨rfl, b6⟩
    replace rs0 := rs0.below b6
    replace rx0 := rx0.below b6
    replace ry0 := ry0.below b6
    replace bel := below_step bel b6
    have z6 := b6.size
    go_wp2_with fail
    go_ret
    exact ⟨rfl, bel⟩
  · go_enter Try.func4, Try.ntmps4
    go_wp2
    go_ret
    exact ⟨rfl, Below.refl _ _⟩
end Go.Proofs.Ytgndokhehooplaa
