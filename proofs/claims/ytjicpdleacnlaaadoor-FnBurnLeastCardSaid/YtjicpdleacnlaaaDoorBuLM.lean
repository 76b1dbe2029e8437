/- FnBurnLeast: the law's walk. -/
import Derived.Test.YtjicpdleacnlaaaDoorSamB
import Derived.Test.YtjicpdleacnlaaaDoorDrawB
import Derived.Test.YtjicpdleacnlaaaDoorBuLE
import Derived.Deep.RegionHeld3
import Derived.Lib.MinMax
set_option linter.unusedVariables false
set_option linter.unusedSimpArgs false
namespace Go.Proofs.YtjicpdleacnlaaaDoor
open Go.ChangeShapes Go.WideShapes Go.ChangeAt Go.RowKit

set_option maxRecDepth 20000 in
set_option maxHeartbeats 2000000 in
theorem walk_fnBurnLeast (w : World) (A : Option Addr) (c : Nat) (xs : List Int) (h : RV w w.heap.size A (bts xs)) (hc : xs.length ≤ c) (hm : c ≤ maxLen) (hb : ∀ x ∈ xs, 0 ≤ x ∧ x ≤ 255) :
    Calls Tryd.prog 6 #[.slice A xs.length c] w fun e w' => e = .returned (.bool true) ∧ Below w.heap.size w w' := by
  unfold maxLen at hm
  by_cases hl : xs.length ≤ 1048576
  · have HD := Lib.hid (drawBurnLeast_any A c xs w h hc hl hb)
    clear hb h
    have hd8 : decide ((1048576 : Int) < (xs.length : Int)) = false := decide_eq_false (by omega)
    go_enter Tryd.func6, Tryd.ntmps6
    go_wp2_with fail
    refine HD.out.mono ?_
    rintro e w1 ⟨v, os, m, rfl, o, hol, hmb, bel⟩
    obtain ⟨A1, c1, rfl, hr1, -⟩ := own_form o
    clear o HD hd8
    go_wp2_with fail
    refine (impl_burnLeast A1 c1 os m _ hr1 (by omega) (by omega)).mono ?_
    rintro e w2 ⟨rfl, b2⟩
    replace hr1 := RV.step hr1 b2
    replace bel := below_step bel b2
    clear b2
    go_wp2_with fail
    refine (spec_burnLeast A1 c1 os m _ hr1 (by omega) (by omega)).mono ?_
    rintro e w3 ⟨rfl, b3⟩
    replace hr1 := RV.step hr1 b3
    replace bel := below_step bel b3
    clear b3
    cases hs : okM os m
    · have hx := leastB_no hs
      rw [hx]
      clear hx hs
      go_wp2_with fail
      refine (alive_any _).mono ?_
      rintro e w99 ⟨rfl, b99⟩
      go_wp2
      go_ret
      exact ⟨rfl, below_step bel b99⟩
    · have i6 := least_nonneg hs
      have i1 := least_one (okM_parts hs).1
      have h6 := spans_len (okM_parts hs).1
      have HSA := Lib.hid (spans_all (okM_parts hs).1)
      obtain ⟨M, rfl⟩ : ∃ M : Nat, m = M := ⟨m.toNat, by have := (okM_parts hs).2; omega⟩
      have hM := (okM_parts hs).2
      have hd1 : decide (leastB os M < 0) = false := decide_eq_false (by omega)
      by_cases h3 : M = 3
      · subst h3
        clear hs
        have I1 := Lib.hid i1
        clear i1
        generalize leastB os ((3 : Nat) : Int) = x at *
        go_wp2_with fail
        refine (impl_burnLeast A1 c1 os 1 _ hr1 (by omega) (by omega)).mono ?_
        rintro e w4 ⟨rfl, b4⟩
        rw [I1.out]
        replace hr1 := RV.step hr1 b4
        replace bel := below_step bel b4
        clear b4
        go_wp2_with fail
        refine (lsumOf_any A1 c1 os _ _ hr1 (by omega) HSA.out).mono ?_
        rintro e w' ⟨rfl, rfl⟩
        generalize os.sum = sm at *
        go_wp2
        go_ret
        first | exact ⟨rfl, bel⟩ | exact ⟨ret_bool (by simp), bel⟩
      · have i5 := least_more hs (by omega)
        have hne : ((M : Int) == 3) = false := by rw [beq_eq_false_iff_ne]; omega
        have hne2 : (M == 3) = false := by rw [beq_eq_false_iff_ne]; omega
        have I1 := Lib.hid i1
        clear hs i1
        go_wp2_with fail
        refine (impl_burnLeast A1 c1 os ((M : Int) + 1) _ hr1 (by omega) (by omega)).mono ?_
        rintro e w4 ⟨rfl, b4⟩
        replace hr1 := RV.step hr1 b4
        replace bel := below_step bel b4
        clear b4
        generalize leastB os ((M : Int) + 1) = x1 at *
        generalize leastB os (M : Int) = x at *
        go_wp2_with fail
        refine (impl_burnLeast A1 c1 os 1 _ hr1 (by omega) (by omega)).mono ?_
        rintro e w5 ⟨rfl, b5⟩
        rw [I1.out]
        replace hr1 := RV.step hr1 b5
        replace bel := below_step bel b5
        clear b5
        go_wp2_with fail
        refine (lsumOf_any A1 c1 os _ _ hr1 (by omega) HSA.out).mono ?_
        rintro e w' ⟨rfl, rfl⟩
        generalize os.sum = sm at *
        go_wp2
        go_ret
        first | exact ⟨rfl, bel⟩ | exact ⟨ret_bool (by simp), bel⟩
  · go_enter Tryd.func6, Tryd.ntmps6
    go_wp2
    go_ret
    exact ⟨rfl, Below.refl _ _⟩
end Go.Proofs.YtjicpdleacnlaaaDoor
