/- FnSpansValid: the law's walk. -/
import Derived.Test.YtnehedcelfpegaaDoorSame
import Derived.Test.YtnehedcelfpegaaDoorTog1
import Derived.Deep.RegionHeld3
import Derived.Lib.MinMax
set_option linter.unusedVariables false
set_option linter.unusedSimpArgs false
namespace Go.Proofs.YtnehedcelfpegaaDoor
open Go.ChangeShapes Go.WideShapes Go.ChangeAt Go.RowKit

theorem spans_zero {os : List Int} (h : spansB os = true) : spansB (List.replicate os.length 0) = true := by
  simp only [spansB, Bool.and_eq_true, decide_eq_true_eq, List.length_replicate] at h ⊢
  refine ⟨?_, h.2⟩
  rw [List.all_eq_true]
  intro x hx
  rw [(List.mem_replicate.1 hx).2]; decide
set_option maxRecDepth 20000 in
set_option maxHeartbeats 8000000 in
theorem walk_fnSpansValid (w : World) (A : Option Addr) (c : Nat) (xs : List Int) (h : RV w w.heap.size A (bts xs)) (hc : xs.length ≤ c) (hm : c ≤ maxLen) (hb : ∀ x ∈ xs, 0 ≤ x ∧ x ≤ 255) :
    Calls Tryd.prog 3 #[.slice A xs.length c] w fun e w' => e = .returned (.bool true) ∧ Below w.heap.size w w' := by
  unfold maxLen at hm
  by_cases hl : xs.length ≤ 1048576
  · have HD := Lib.hid (drawSpansValid_any A c xs w h hc hl hb)
    clear hb h
    have hd8 : decide ((1048576 : Int) < (xs.length : Int)) = false := decide_eq_false (by omega)
    go_enter Tryd.func3, Tryd.ntmps3
    go_wp2_with fail
    refine HD.out.mono ?_
    rintro e w1 ⟨v, os, rfl, o, hol, bel⟩
    obtain ⟨A1, c1, rfl, hr1, -⟩ := own_form o
    clear o HD
    go_wp2_with fail
    refine (impl_spansValid A1 c1 os _ _ hr1 (by omega)).mono ?_
    rintro e w' ⟨rfl, rfl⟩
    go_wp2_with fail
    refine (spec_spansValid A1 c1 os _ _ hr1 (by omega)).mono ?_
    rintro e w' ⟨rfl, rfl⟩
    have hbb : (spansB os == spansB os) = true := by simp
    cases hs : spansB os
    · clear hs
      go_wp2_with (at_builtin; refine wpList_appG _ (by rfl) _ _ 23 rfl int_EId w1.heap.size (.slice (some ⟨w1.heap.size, 0, none⟩) 1 1) 1 [.int .i64 (-1)] rfl (newG w1 3 [.int .i64 (-1)] 1 rfl (Nat.le_refl _)) A1 os.length c1 (ints os) rfl (by rw [ints_length, Nat.mul_one]) (hr1.below (below_al (Below.refl _ _) _)) (ints_one _) (le_max (by omega)) (by omega) (by simp) ?_; intro v2 w2 hO2 hg2 _)
      have b2 : Below w1.heap.size w1 w2 := below_app' (Nat.le_refl _) (newG w1 3 [.int .i64 (-1)] 1 rfl (Nat.le_refl _)) hg2
      have o2 : OI w2 w1.heap.size v2 ((-1) :: os) := oi_consD hO2 (by omega)
      obtain ⟨A2, c2, rfl, hr2, -⟩ := own_form o2
      have hneg : spansB ((-1) :: os) = false := by simp [spansB, inB]
      replace bel := below_step bel b2
      clear hO2 hg2 o2
      have hx := impl_spansValid A2 c2 ((-1) :: os) w2 _ hr2 (by simp; omega)
      rw [hneg] at hx
      refine hx.mono ?_
      rintro e w' ⟨rfl, rfl⟩
      go_wp2_with fail
      refine (alive_any _).mono ?_
      rintro e w99 ⟨rfl, b99⟩
      go_wp2
      go_ret
      exact ⟨rfl, below_step bel b99⟩
    · have HZ := Lib.hid (spans_zero hs)
      have hmk := run_make_row' (P := Tryd.prog) 23 3 (.int .i64 0) 8 Tryd.underlying23 int_info rfl .i64 .i64 os.length (by omega) (by omega)
      have hB := blk_made w1 (.int .i64 0) os.length 3
      rw [filled_nil, ← ints_replicate] at hB
      have hlz : (List.replicate os.length (0 : Int)).length = os.length := List.length_replicate
      have HRZ := Lib.hid (own_form (hB.ownI (Nat.zero_le _) (by rw [hlz]; exact le_max (by omega))))
      clear hB hs
      go_wp2_with fail
      clear hmk
      obtain ⟨Az, cz, ez, hrz, -⟩ := HRZ.out
      injection ez with ez1 ez2 ez3
      subst ez1
      have hx := impl_spansValid (some ⟨w1.heap.size, 0, none⟩) os.length (List.replicate os.length 0) _ _ hrz (by rw [hlz]; omega)
      rw [HZ.out, hlz] at hx
      refine hx.mono ?_
      rintro e w' ⟨rfl, rfl⟩
      have bel0 : Below w.heap.size w (w1.alloc (.cells (madeCells #[.int .i64 0] os.length) 3)) := below_al bel _
      have hr1' : RV (w1.alloc (.cells (madeCells #[.int .i64 0] os.length) 3)) (w1.alloc (.cells (madeCells #[.int .i64 0] os.length) 3)).heap.size A1 (ints os) := RV.step hr1 (below_al (Below.refl _ _) _)
      clear hr1 bel hx hrz
      generalize w1.alloc (.cells (madeCells #[.int .i64 0] os.length) 3) = w5 at *
      have bel := bel0
      clear bel0
      go_wp2_with (at_builtin; refine wpList_appG _ (by rfl) _ _ 23 rfl int_EId w5.heap.size (.slice (some ⟨w5.heap.size, 0, none⟩) 1 1) 1 [.int .i64 (-1)] rfl (newG w5 3 [.int .i64 (-1)] 1 rfl (Nat.le_refl _)) A1 os.length c1 (ints os) rfl (by rw [ints_length, Nat.mul_one]) (hr1'.below (below_al (Below.refl _ _) _)) (ints_one _) (le_max (by omega)) (by omega) (by simp) ?_; intro v2 w2 hO2 hg2 _)
      have b2 : Below w5.heap.size w5 w2 := below_app' (Nat.le_refl _) (newG w5 3 [.int .i64 (-1)] 1 rfl (Nat.le_refl _)) hg2
      have o2 : OI w2 w5.heap.size v2 ((-1) :: os) := oi_consD hO2 (by omega)
      obtain ⟨A2, c2, rfl, hr2, -⟩ := own_form o2
      have hneg : spansB ((-1) :: os) = false := by simp [spansB, inB]
      replace bel := below_step bel b2
      clear hO2 hg2 o2
      have hx := impl_spansValid A2 c2 ((-1) :: os) w2 _ hr2 (by simp; omega)
      rw [hneg] at hx
      refine hx.mono ?_
      rintro e w' ⟨rfl, rfl⟩
      go_wp2_with fail
      refine (alive_any _).mono ?_
      rintro e w99 ⟨rfl, b99⟩
      go_wp2
      go_ret
      exact ⟨rfl, below_step bel b99⟩
  · go_enter Tryd.func3, Tryd.ntmps3
    go_wp2
    go_ret
    exact ⟨rfl, Below.refl _ _⟩
end Go.Proofs.YtnehedcelfpegaaDoor
