/- FnBurnEnd: the law's walk. -/
import Derived.Test.YtjicpdleacnlaaaDoorSamB
import Derived.Test.YtjicpdleacnlaaaDoorDrawB
import Derived.Test.YtjicpdleacnlaaaDoorBurn4
import Derived.Deep.RegionHeld3
import Derived.Lib.MinMax
set_option linter.unusedVariables false
set_option linter.unusedSimpArgs false
namespace Go.Proofs.YtjicpdleacnlaaaDoor
open Go.ChangeShapes Go.WideShapes Go.ChangeAt Go.RowKit

theorem end_le {xs : List Int} {m : Int} {on : List Int} (h : burnB xs m on = true) : bEnd xs m on ≤ 180 := by
  obtain ⟨h1, h2, h3, h4⟩ := burn_parts h
  have h6 := spans_len h2
  rw [bEnd_yes h]
  refine top_le _ _ (by omega) _ fun j hj => ?_
  rw [loads_at _ _ _ _ _ hj]
  have := (load_bound h2 on j xs.length).2
  omega
theorem burn_ok {xs : List Int} {m : Int} {on : List Int} (h : burnB xs m on = true) : okM xs m = true := by
  obtain ⟨h1, h2, h3, h4⟩ := burn_parts h
  exact okM_mk h2 h3
theorem spans_all {xs : List Int} (h : spansB xs = true) (x : Int) (hx : x ∈ xs) : -1000000 ≤ x ∧ x ≤ 1000000 := by
  obtain ⟨k, hk, e⟩ := List.getElem_of_mem hx
  have := spans_bound h k
  rw [← at0_eq hk, e] at this
  omega
theorem prod3 (m x : Int) (hm : 1 ≤ m ∧ m ≤ 3) (hx : 0 ≤ x ∧ x ≤ 180) : 0 ≤ m * x ∧ m * x ≤ 540 := by
  have : m = 1 ∨ m = 2 ∨ m = 3 := by omega
  rcases this with rfl | rfl | rfl <;> omega
set_option maxRecDepth 20000 in
set_option maxHeartbeats 2000000 in
theorem walk_fnBurnEnd (w : World) (A : Option Addr) (c : Nat) (xs : List Int) (h : RV w w.heap.size A (bts xs)) (hc : xs.length ≤ c) (hm : c ≤ maxLen) (hb : ∀ x ∈ xs, 0 ≤ x ∧ x ≤ 255) :
    Calls Tryd.prog 4 #[.slice A xs.length c] w fun e w' => e = .returned (.bool true) ∧ Below w.heap.size w w' := by
  unfold maxLen at hm
  by_cases hl : xs.length ≤ 1048576
  · have HD := Lib.hid (drawBurnEnd_any A c xs w h hc hl hb)
    clear hb h
    have hd8 : decide ((1048576 : Int) < (xs.length : Int)) = false := decide_eq_false (by omega)
    go_enter Tryd.func4, Tryd.ntmps4
    go_wp2_with fail
    refine HD.out.mono ?_
    rintro e w1 ⟨v, v2, os, on, m, rfl, o, o2, ⟨hol, hol2⟩, hmb, bel⟩
    obtain ⟨A1, c1, rfl, hr1, -⟩ := own_form o
    obtain ⟨A2, c2, rfl, hr2, -⟩ := own_form o2
    clear o o2 HD hd8
    go_wp2_with fail
    refine (impl_burnEnd A1 A2 c1 c2 os on m _ hr1 hr2 (by omega) (by omega) (by omega)).mono ?_
    rintro e w2 ⟨rfl, b2⟩
    replace hr1 := RV.step hr1 b2
    replace hr2 := RV.step hr2 b2
    replace bel := below_step bel b2
    clear b2
    go_wp2_with fail
    refine (spec_burnEnd A1 A2 c1 c2 os on m _ hr1 hr2 (by omega) (by omega) (by omega)).mono ?_
    rintro e w' ⟨rfl, rfl⟩
    cases hs : burnB os m on
    · have hx := bEnd_no hs
      rw [hx]
      clear hx hs
      go_wp2_with fail
      refine (alive_any _).mono ?_
      rintro e w99 ⟨rfl, b99⟩
      go_wp2
      go_ret
      exact ⟨rfl, below_step bel b99⟩
    · obtain ⟨i1, i2, i3⟩ := end_facts hs
      have i4 := end_le hs
      have i5 := least_le hs
      have i6 := least_nonneg (burn_ok hs)
      obtain ⟨p1, p2, p3, p4⟩ := burn_parts hs
      have I2 := Lib.hid i2
      have HSA := Lib.hid (spans_all p2)
      have h6 := spans_len p2
      have i7 := prod3 m (bEnd os m on) p3 ⟨i1, i4⟩
      clear hs p1 p2 p4 i2
      generalize bEnd os m on = x at *
      have hd1 : decide (x < 0) = false := decide_eq_false (by omega)
      go_wp2
      go_loop [7] (fun i => ∃ k : Nat, k ≤ os.length ∧ i = .int .i64 k) (fun i => os.length - (intOf i).toNat)
      case atStart => exact ⟨0, Nat.zero_le _, rfl⟩
      case round =>
        obtain ⟨k, hk, rfl⟩ := hrel
        by_cases hlt : k < os.length
        · obtain ⟨b, off, rfl, hbl, hcc⟩ := IS.at0_ hr1 (by omega)
          have e1 := hcc k hlt
          have i8 := I2.out k hlt
          clear hcc
          generalize at0 os k = y at *
          have hd2 : decide (x < y) = false := decide_eq_false (by omega)
          go_wp2
          go_round
          case rel => exact ⟨k + 1, by omega, by go_num⟩
          case measure => (simp [intOf]) <;> omega
        · obtain rfl : k = os.length := by omega
          clear hk hlt
          go_wp2_with fail
          refine (impl_burnLeast A1 c1 os m _ hr1 (by omega) (by omega)).mono ?_
          rintro e w3 ⟨rfl, b3⟩
          replace hr1 := RV.step hr1 b3
          replace bel := below_step bel b3
          generalize leastB os m = ll at *
          generalize hpr : m * x = pr at *
          clear b3
          go_wp2_with fail
          refine (lsumOf_any A1 c1 os _ _ hr1 (by omega) HSA.out).mono ?_
          rintro e w' ⟨rfl, rfl⟩
          generalize os.sum = sm at *
          go_wp2
          go_ret
          first | exact ⟨rfl, bel⟩ | exact ⟨ret_bool (by simp; try omega), bel⟩
  · go_enter Tryd.func4, Tryd.ntmps4
    go_wp2
    go_ret
    exact ⟨rfl, Below.refl _ _⟩
end Go.Proofs.YtjicpdleacnlaaaDoor
