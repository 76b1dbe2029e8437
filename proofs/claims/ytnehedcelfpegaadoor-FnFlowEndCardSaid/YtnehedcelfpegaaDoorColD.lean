/- FnDishesValid: the law's walk. -/
import Derived.Test.YtnehedcelfpegaaDoorSame
import Derived.Test.YtnehedcelfpegaaDoorFlow1
import Derived.Deep.RegionHeld3
import Derived.Lib.MinMax
set_option linter.unusedVariables false
set_option linter.unusedSimpArgs false
namespace Go.Proofs.YtnehedcelfpegaaDoor
open Go.ChangeShapes Go.WideShapes Go.ChangeAt Go.RowKit

theorem own_nilD {w : World} {base n : Nat} {e : TypeId} {size : Nat} {v : Value} {cs : List Value} (h : w.ownsRow base e size v (0 + n) ([] ++ cs)) : w.ownsRow base e size v n cs := by
  rwa [Nat.zero_add, List.nil_append] at h
theorem dish_more {os : List Dsh} (h : dishB os = true) (h6 : os.length ≠ 6) : dishB (os ++ [(0, 0)]) = true := by
  simp only [dishB, Bool.and_eq_true, List.all_eq_true, decide_eq_true_eq, List.length_append, List.length_cons, List.length_nil] at h ⊢
  refine ⟨fun d hd => ?_, by omega⟩
  rcases List.mem_append.1 hd with h1 | h1
  · exact h.1 d h1
  · rw [List.mem_singleton.1 h1]; decide
theorem dish_less (os : List Dsh) : dishB (os ++ [(-1, 0)]) = false := by
  simp [dishB, dOk, inB]
set_option maxRecDepth 20000 in
set_option maxHeartbeats 8000000 in
theorem walk_fnDishesValid (w : World) (A : Option Addr) (c : Nat) (xs : List Int) (h : RV w w.heap.size A (bts xs)) (hc : xs.length ≤ c) (hm : c ≤ maxLen) (hb : ∀ x ∈ xs, 0 ≤ x ∧ x ≤ 255) :
    Calls Tryd.prog 4 #[.slice A xs.length c] w fun e w' => e = .returned (.bool true) ∧ Below w.heap.size w w' := by
  unfold maxLen at hm
  by_cases hl : xs.length ≤ 1048576
  · have HD := Lib.hid (drawDishesValid_any A c xs w h hc hl hb)
    clear hb h
    have hd8 : decide ((1048576 : Int) < (xs.length : Int)) = false := decide_eq_false (by omega)
    go_enter Tryd.func4, Tryd.ntmps4
    go_wp2_with fail
    refine HD.out.mono ?_
    rintro e w1 ⟨v, os, rfl, o, hol, bel⟩
    obtain ⟨A1, c1, rfl, hr1, -⟩ := own_form o
    clear o HD
    go_wp2_with fail
    refine (impl_dishesValid A1 c1 os _ hr1 (by omega)).mono ?_
    rintro e w2 ⟨rfl, b2⟩
    have hr1 := RV.step hr1 b2
    replace bel := below_step bel b2
    go_wp2_with fail
    refine (spec_dishesValid A1 c1 os _ _ hr1 (by omega)).mono ?_
    rintro e w' ⟨rfl, rfl⟩
    have hbb : (dishB os == dishB os) = true := by simp
    have HM := Lib.hid (fun h h6 => dish_more (os := os) h h6)
    have HL := Lib.hid (dish_less os)
    clear b2
    generalize dishB os = ok at *
    cases ok
    · skip
      go_wp2_with (first | (at_builtin; refine wpList_app _ rfl _ _ 28 rfl dish_EId w2.heap.size (.slice (some ⟨w2.heap.size, 0, none⟩) 0 0) 0 [] rfl (own_empty _ _ 2 _ (Nat.le_refl _)) A1 os.length c1 (dishes os) rfl (dishes_length os) (hr1.below (below_al (Below.refl _ _) _)) (dishes_one os) (le_max (by omega)) (by omega) (by simp) ?_; intro v5 w5 hO5 hg5 _; have b5 : Below w2.heap.size w2 w5 := below_app (below_al (Below.refl _ _) _) (own_empty _ _ 2 _ (Nat.le_refl _)) hg5) | (at_builtin; refine wpList_app _ rfl _ _ 28 rfl dish_EId w2.heap.size v5 os.length (dishes os) rfl ((own_nilD hO5).alloc _) (some ⟨w5.heap.size, 0, none⟩) 1 1 [.int .i64 0, .int .i64 0] rfl rfl (rv_new _ _ _) (one2 _ _) (le_max (by omega)) (by omega) (by have := b5.size; simp; omega) ?_; intro v6 w6 hO6 hg6 _; have b6 : Below w2.heap.size w2 w6 := b5.trans (below_app' b5.size ((own_nilD hO5).alloc _) hg6); have ra6 : RV w6 w6.heap.size A1 (dishes os) := RV.step hr1 b6; clear hg5 hg6 hO5 b5) | (at_builtin; refine wpList_appG _ (by rfl) _ _ 28 rfl dish_EId w6.heap.size (.slice (some ⟨w6.heap.size, 0, none⟩) 0 0) 0 [] rfl (own_empty _ _ 2 _ (Nat.le_refl _)) A1 os.length c1 (dishes os) rfl (dishes_length os) (ra6.below (below_al (Below.refl _ _) _)) (dishes_one os) (le_max (by omega)) (by omega) (by simp) ?_; intro v7 w7 hO7 hg7 _; have b7 : Below w6.heap.size w6 w7 := below_app (below_al (Below.refl _ _) _) (own_empty _ _ 2 _ (Nat.le_refl _)) hg7) | (at_builtin; refine wpList_appG _ (by rfl) _ _ 28 rfl dish_EId w6.heap.size v7 os.length (dishes os) rfl ((own_nilD hO7).alloc _) (some ⟨w7.heap.size, 0, none⟩) 1 1 [.int .i64 (-1), .int .i64 0] rfl rfl (rv_new _ _ _) (one2 _ _) (le_max (by omega)) (by omega) (by have := b7.size; simp; omega) ?_; intro v8 w8 hO8 hg8 _; have b8 : Below w6.heap.size w6 w8 := b7.trans (below_app' b7.size ((own_nilD hO7).alloc _) hg8); have ra8 : RV w8 w8.heap.size A1 (dishes os) := RV.step ra6 b8; clear hg7 hg8 hO7 b7))
      replace bel := below_step bel b6
      have o9 : OD w8 w6.heap.size v8 (os ++ [(-1, 0)]) := od_pushD hO8
      obtain ⟨A9, c9, rfl, hr9, -⟩ := own_form o9
      replace bel := below_step bel b8
      clear o9 hO8
      have hx := impl_dishesValid A9 c9 (os ++ [(-1, 0)]) w8 hr9 (by simp; omega)
      rw [HL.out] at hx
      refine hx.mono ?_
      rintro e w17 ⟨rfl, b17⟩
      replace bel := below_step bel b17
      go_wp2_with fail
      refine (alive_any _).mono ?_
      rintro e w99 ⟨rfl, b99⟩
      go_wp2
      go_ret
      exact ⟨rfl, below_step bel b99⟩
    · by_cases h6 : os.length = 6
      · have h6z : ((os.length : Int) == 6) = true := by rw [h6]; rfl
        clear h6
        go_wp2_with (first | (at_builtin; refine wpList_app _ rfl _ _ 28 rfl dish_EId w2.heap.size (.slice (some ⟨w2.heap.size, 0, none⟩) 0 0) 0 [] rfl (own_empty _ _ 2 _ (Nat.le_refl _)) A1 os.length c1 (dishes os) rfl (dishes_length os) (hr1.below (below_al (Below.refl _ _) _)) (dishes_one os) (le_max (by omega)) (by omega) (by simp) ?_; intro v5 w5 hO5 hg5 _; have b5 : Below w2.heap.size w2 w5 := below_app (below_al (Below.refl _ _) _) (own_empty _ _ 2 _ (Nat.le_refl _)) hg5) | (at_builtin; refine wpList_app _ rfl _ _ 28 rfl dish_EId w2.heap.size v5 os.length (dishes os) rfl ((own_nilD hO5).alloc _) (some ⟨w5.heap.size, 0, none⟩) 1 1 [.int .i64 0, .int .i64 0] rfl rfl (rv_new _ _ _) (one2 _ _) (le_max (by omega)) (by omega) (by have := b5.size; simp; omega) ?_; intro v6 w6 hO6 hg6 _; have b6 : Below w2.heap.size w2 w6 := b5.trans (below_app' b5.size ((own_nilD hO5).alloc _) hg6); have ra6 : RV w6 w6.heap.size A1 (dishes os) := RV.step hr1 b6; clear hg5 hg6 hO5 b5) | (at_builtin; refine wpList_appG _ (by rfl) _ _ 28 rfl dish_EId w6.heap.size (.slice (some ⟨w6.heap.size, 0, none⟩) 0 0) 0 [] rfl (own_empty _ _ 2 _ (Nat.le_refl _)) A1 os.length c1 (dishes os) rfl (dishes_length os) (ra6.below (below_al (Below.refl _ _) _)) (dishes_one os) (le_max (by omega)) (by omega) (by simp) ?_; intro v7 w7 hO7 hg7 _; have b7 : Below w6.heap.size w6 w7 := below_app (below_al (Below.refl _ _) _) (own_empty _ _ 2 _ (Nat.le_refl _)) hg7) | (at_builtin; refine wpList_appG _ (by rfl) _ _ 28 rfl dish_EId w6.heap.size v7 os.length (dishes os) rfl ((own_nilD hO7).alloc _) (some ⟨w7.heap.size, 0, none⟩) 1 1 [.int .i64 (-1), .int .i64 0] rfl rfl (rv_new _ _ _) (one2 _ _) (le_max (by omega)) (by omega) (by have := b7.size; simp; omega) ?_; intro v8 w8 hO8 hg8 _; have b8 : Below w6.heap.size w6 w8 := b7.trans (below_app' b7.size ((own_nilD hO7).alloc _) hg8); have ra8 : RV w8 w8.heap.size A1 (dishes os) := RV.step ra6 b8; clear hg7 hg8 hO7 b7))
        replace bel := below_step bel b6
        have o9 : OD w8 w6.heap.size v8 (os ++ [(-1, 0)]) := od_pushD hO8
        obtain ⟨A9, c9, rfl, hr9, -⟩ := own_form o9
        replace bel := below_step bel b8
        clear o9 hO8
        have hx := impl_dishesValid A9 c9 (os ++ [(-1, 0)]) w8 hr9 (by simp; omega)
        rw [HL.out] at hx
        refine hx.mono ?_
        rintro e w17 ⟨rfl, b17⟩
        replace bel := below_step bel b17
        go_wp2_with fail
        refine (alive_any _).mono ?_
        rintro e w99 ⟨rfl, b99⟩
        go_wp2
        go_ret
        exact ⟨rfl, below_step bel b99⟩
      · have h6z : ((os.length : Int) == 6) = false := by rw [beq_eq_false_iff_ne]; omega
        go_wp2_with (first | (at_builtin; refine wpList_app _ rfl _ _ 28 rfl dish_EId w2.heap.size (.slice (some ⟨w2.heap.size, 0, none⟩) 0 0) 0 [] rfl (own_empty _ _ 2 _ (Nat.le_refl _)) A1 os.length c1 (dishes os) rfl (dishes_length os) (hr1.below (below_al (Below.refl _ _) _)) (dishes_one os) (le_max (by omega)) (by omega) (by simp) ?_; intro v5 w5 hO5 hg5 _; have b5 : Below w2.heap.size w2 w5 := below_app (below_al (Below.refl _ _) _) (own_empty _ _ 2 _ (Nat.le_refl _)) hg5) | (at_builtin; refine wpList_app _ rfl _ _ 28 rfl dish_EId w2.heap.size v5 os.length (dishes os) rfl ((own_nilD hO5).alloc _) (some ⟨w5.heap.size, 0, none⟩) 1 1 [.int .i64 0, .int .i64 0] rfl rfl (rv_new _ _ _) (one2 _ _) (le_max (by omega)) (by omega) (by have := b5.size; simp; omega) ?_; intro v6 w6 hO6 hg6 _; have b6 : Below w2.heap.size w2 w6 := b5.trans (below_app' b5.size ((own_nilD hO5).alloc _) hg6); have ra6 : RV w6 w6.heap.size A1 (dishes os) := RV.step hr1 b6; clear hg5 hg6 hO5 b5))
        have o9 : OD w6 w2.heap.size v6 (os ++ [(0, 0)]) := od_pushD hO6
        obtain ⟨A9, c9, rfl, hr9, -⟩ := own_form o9
        replace bel := below_step bel b6
        clear o9 hO6
        have hx := impl_dishesValid A9 c9 (os ++ [(0, 0)]) w6 hr9 (by simp; omega)
        rw [HM.out (by first | rfl | trivial) h6] at hx
        refine hx.mono ?_
        rintro e w10 ⟨rfl, b10⟩
        replace bel := below_step bel b10
        have ra10 : RV w10 w10.heap.size A1 (dishes os) := RV.step ra6 b10
        clear hr9 b10 b6
        go_wp2_with (first | (at_builtin; refine wpList_appG _ (by rfl) _ _ 28 rfl dish_EId w10.heap.size (.slice (some ⟨w10.heap.size, 0, none⟩) 0 0) 0 [] rfl (own_empty _ _ 2 _ (Nat.le_refl _)) A1 os.length c1 (dishes os) rfl (dishes_length os) (ra10.below (below_al (Below.refl _ _) _)) (dishes_one os) (le_max (by omega)) (by omega) (by simp) ?_; intro v11 w11 hO11 hg11 _; have b11 : Below w10.heap.size w10 w11 := below_app (below_al (Below.refl _ _) _) (own_empty _ _ 2 _ (Nat.le_refl _)) hg11) | (at_builtin; refine wpList_appG _ (by rfl) _ _ 28 rfl dish_EId w10.heap.size v11 os.length (dishes os) rfl ((own_nilD hO11).alloc _) (some ⟨w11.heap.size, 0, none⟩) 1 1 [.int .i64 (-1), .int .i64 0] rfl rfl (rv_new _ _ _) (one2 _ _) (le_max (by omega)) (by omega) (by have := b11.size; simp; omega) ?_; intro v12 w12 hO12 hg12 _; have b12 : Below w10.heap.size w10 w12 := b11.trans (below_app' b11.size ((own_nilD hO11).alloc _) hg12); have ra12 : RV w12 w12.heap.size A1 (dishes os) := RV.step ra10 b12; clear hg11 hg12 hO11 b11))
        have o9 : OD w12 w10.heap.size v12 (os ++ [(-1, 0)]) := od_pushD hO12
        obtain ⟨A9, c9, rfl, hr9, -⟩ := own_form o9
        replace bel := below_step bel b12
        clear o9 hO12
        have hx := impl_dishesValid A9 c9 (os ++ [(-1, 0)]) w12 hr9 (by simp; omega)
        rw [HL.out] at hx
        refine hx.mono ?_
        rintro e w17 ⟨rfl, b17⟩
        replace bel := below_step bel b17
        go_wp2_with fail
        refine (alive_any _).mono ?_
        rintro e w99 ⟨rfl, b99⟩
        go_wp2
        go_ret
        exact ⟨rfl, below_step bel b99⟩
  · go_enter Tryd.func4, Tryd.ntmps4
    go_wp2
    go_ret
    exact ⟨rfl, Below.refl _ _⟩
end Go.Proofs.YtnehedcelfpegaaDoor
