/- FnBurnList: the law's walk. -/
import Derived.Test.YtjicpdleacnlaaaDoorSamB
import Derived.Test.YtjicpdleacnlaaaDoorDrawB
import Derived.Test.YtjicpdleacnlaaaDoorBuLE
import Derived.Deep.RegionHeld3
import Derived.Lib.MinMax
set_option linter.unusedVariables false
set_option linter.unusedSimpArgs false
namespace Go.Proofs.YtjicpdleacnlaaaDoor
open Go.ChangeShapes Go.WideShapes Go.ChangeAt Go.RowKit

theorem prod_le (a m : Int) (hm : 1 ≤ m ∧ m ≤ 3) (ha : 0 ≤ a ∧ a ≤ 180) : (0 ≤ a * m ∧ a * m ≤ 540) ∧ (0 ≤ a * (2 * m - 1) ∧ a * (2 * m - 1) ≤ 900) := by
  have : m = 1 ∨ m = 2 ∨ m = 3 := by omega
  rcases this with rfl | rfl | rfl <;> omega
set_option maxRecDepth 20000 in
set_option maxHeartbeats 2000000 in
theorem walk_fnBurnList (w : World) (A : Option Addr) (c : Nat) (xs : List Int) (h : RV w w.heap.size A (bts xs)) (hc : xs.length ≤ c) (hm : c ≤ maxLen) (hb : ∀ x ∈ xs, 0 ≤ x ∧ x ≤ 255) :
    Calls Tryd.prog 5 #[.slice A xs.length c] w fun e w' => e = .returned (.bool true) ∧ Below w.heap.size w w' := by
  unfold maxLen at hm
  by_cases hl : xs.length ≤ 1048576
  · have HD := Lib.hid (drawBurnList_any A c xs w h hc hl hb)
    clear hb h
    have hd8 : decide ((1048576 : Int) < (xs.length : Int)) = false := decide_eq_false (by omega)
    go_enter Tryd.func5, Tryd.ntmps5
    go_wp2_with fail
    refine HD.out.mono ?_
    rintro e w1 ⟨v, os, m, rfl, o, hol, hmb, bel⟩
    obtain ⟨A1, c1, rfl, hr1, -⟩ := own_form o
    clear o HD hd8
    go_wp2_with fail
    refine (impl_burnList A1 c1 os m _ hr1 (by omega) (by omega)).mono ?_
    rintro e w2 ⟨v2, rfl, o2, b2⟩
    obtain ⟨A2, c2, rfl, hr2, -⟩ := own_form o2
    replace hr1 := RV.step hr1 b2
    replace bel := below_step bel b2
    have HLL := Lib.hid (listF_len os m)
    clear b2 o2
    go_wp2_with fail
    refine (spec_burnList A1 c1 os m _ hr1 (by omega) (by omega)).mono ?_
    rintro e w3 ⟨v3, rfl, o3, b3⟩
    obtain ⟨A3, c3, rfl, hr3, -⟩ := own_form o3
    replace hr1 := RV.step hr1 b3
    replace hr2 := RV.step hr2 b3
    replace bel := below_step bel b3
    clear b3 o3
    go_wp2_with fail
    refine (sameInts_e A2 A3 c2 c3 (listF os m) _ hr2 hr3 (by have := HLL.out; omega)).mono ?_
    rintro e w4 ⟨rfl, b4⟩
    replace hr1 := RV.step hr1 b4
    replace hr2 := RV.step hr2 b4
    replace bel := below_step bel b4
    clear b4 hr3
    cases hs : spansB os
    · have hx := listF_no (okM_no (xs := os) (m := m) (.inl hs))
      rw [hx]
      clear hx
      go_wp2_with (go_at_call 26; refine (spec_spansValid A1 c1 os _ _ hr1 (by omega)).mono ?_; rintro e w' ⟨rfl, rfl⟩)
      refine (alive_any _).mono ?_
      rintro e w99 ⟨rfl, b99⟩
      go_wp2
      go_ret
      exact ⟨rfl, below_step bel b99⟩
    · by_cases h1 : m < 1
      · have hx := listF_no (okM_no (xs := os) (m := m) (.inr (.inl h1)))
        rw [hx]
        clear hx
        go_wp2_with (go_at_call 26; refine (spec_spansValid A1 c1 os _ _ hr1 (by omega)).mono ?_; rintro e w' ⟨rfl, rfl⟩)
        refine (alive_any _).mono ?_
        rintro e w99 ⟨rfl, b99⟩
        go_wp2
        go_ret
        exact ⟨rfl, below_step bel b99⟩
      · by_cases h3 : 3 < m
        · have hx := listF_no (okM_no (xs := os) (m := m) (.inr (.inr h3)))
          rw [hx]
          clear hx
          go_wp2_with (go_at_call 26; refine (spec_spansValid A1 c1 os _ _ hr1 (by omega)).mono ?_; rintro e w' ⟨rfl, rfl⟩)
          refine (alive_any _).mono ?_
          rintro e w99 ⟨rfl, b99⟩
          go_wp2
          go_ret
          exact ⟨rfl, below_step bel b99⟩
        · obtain ⟨M, rfl⟩ : ∃ M : Nat, m = M := ⟨m.toNat, by omega⟩
          have hok := okM_mk (m := (M : Int)) hs (by omega)
          obtain ⟨l1, l2⟩ := list_law hok
          have i1 := (end_facts l1).1
          have i4 := end_le l1
          have i6 := least_nonneg hok
          have i8 := least_le l1
          have hp1 := prod_le (bEnd os M (listF os M)) M (by omega) ⟨i1, i4⟩
          have hp2 := prod_le (leastB os M) M (by omega) ⟨i6, by omega⟩
          have hd1 : decide ((M : Int) < 1) = false := decide_eq_false h1
          have hd2 : decide ((3 : Int) < (M : Int)) = false := decide_eq_false h3
          have hd3 : decide (M < 1) = false := decide_eq_false (by omega)
          have hd4 : decide (3 < M) = false := decide_eq_false (by omega)
          go_wp2_with (go_at_call 26; refine (spec_spansValid A1 c1 os _ _ hr1 (by omega)).mono ?_; rintro e w' ⟨rfl, rfl⟩)
          have hx := impl_burnOk A1 A2 c1 c2 os (listF os M) M _ _ _ hr1 hr2 (by omega) (by have := HLL.out; omega) (by omega)
          rw [l1] at hx
          refine hx.mono ?_
          rintro e w' ⟨rfl, rfl⟩
          clear hx l1 hok hs hd1 hd2 hd3 hd4
          go_wp2_with fail
          refine (impl_burnEnd A1 A2 c1 c2 os (listF os M) M _ hr1 hr2 (by omega) (by have := HLL.out; omega) (by omega)).mono ?_
          rintro e w5 ⟨rfl, b5⟩
          replace hr1 := RV.step hr1 b5
          replace bel := below_step bel b5
          clear b5 hr2
          generalize bEnd os M (listF os M) = x at *
          go_wp2_with fail
          refine (impl_burnLeast A1 c1 os M _ hr1 (by omega) (by omega)).mono ?_
          rintro e w6 ⟨rfl, b6⟩
          replace bel := below_step bel b6
          clear b6 hr1
          generalize leastB os M = y at *
          go_wp2
          go_ret
          first | exact ⟨rfl, bel⟩ | exact ⟨ret_bool (by simp; try omega), bel⟩
  · go_enter Tryd.func5, Tryd.ntmps5
    go_wp2
    go_ret
    exact ⟨rfl, Below.refl _ _⟩
end Go.Proofs.YtjicpdleacnlaaaDoor
