/- FnFlowLeast: the law's walk. -/
import Derived.Test.YtnehedcelfpegaaDoorSame
import Derived.Test.YtnehedcelfpegaaDoorFlow5
import Derived.Test.YtnehedcelfpegaaDoorFlowT
import Derived.Deep.RegionHeld3
import Derived.Lib.MinMax
set_option linter.unusedVariables false
set_option linter.unusedSimpArgs false
namespace Go.Proofs.YtnehedcelfpegaaDoor
open Go.ChangeShapes Go.WideShapes Go.ChangeAt Go.RowKit

theorem least_bounds {ds : List Dsh} (h : dishB ds = true) : (ds.map (·.1)).sum ≤ endB ds (bestF ds) ∧ (ds.map (·.2)).sum ≤ endB ds (bestF ds) ∧ endB ds (bestF ds) ≤ (ds.map (·.1)).sum + (ds.map (·.2)).sum ∧ 0 ≤ endB ds (bestF ds) ∧ ∀ k (hk : k < ds.length), ds[k].1 + ds[k].2 ≤ endB ds (bestF ds) := by
  obtain ⟨i1, i2, i3, i4, i5⟩ := end_bounds h (bestF_order h)
  refine ⟨i1, i2, i3, i4, fun k hk => ?_⟩
  have := i5 k hk
  simpa [dP, dC, hk] using this
theorem take_map_succ (f : Dsh → Int) (ds : List Dsh) (k : Nat) (h : k < ds.length) : ((ds.take (k + 1)).map f).sum = ((ds.take k).map f).sum + f ds[k] := by
  rw [List.take_succ_eq_append_getElem h, List.map_append, List.sum_append]; simp
theorem take_map_bound (f : Dsh → Int) (ds : List Dsh) (k : Nat) (h : ∀ d ∈ ds, 0 ≤ f d ∧ f d ≤ 30) (hl : ds.length ≤ 6) : 0 ≤ ((ds.take k).map f).sum ∧ ((ds.take k).map f).sum ≤ 180 := by
  have hg : ∀ l : List Dsh, (∀ d ∈ l, 0 ≤ f d ∧ f d ≤ 30) → 0 ≤ (l.map f).sum ∧ (l.map f).sum ≤ 30 * l.length := by
    intro l
    induction l with
    | nil => intro _; simp
    | cons d t ih =>
      intro hd
      have h1 := hd d (by simp)
      have h2 := ih fun x hx => hd x (by simp [hx])
      rw [List.map_cons, List.sum_cons, List.length_cons]; omega
  have := hg (ds.take k) fun d hd => h d (List.mem_of_mem_take hd)
  have hlt : (ds.take k).length ≤ ds.length := by rw [List.length_take]; omega
  omega
theorem dish_all {ds : List Dsh} (h : dishB ds = true) : ∀ d ∈ ds, (0 ≤ d.1 ∧ d.1 ≤ 30) ∧ 0 ≤ d.2 ∧ d.2 ≤ 30 := by
  intro d hd
  simp only [dishB, Bool.and_eq_true, List.all_eq_true] at h
  have := h.1 d hd
  simpa [dOk, inB] using this
set_option maxRecDepth 20000 in
set_option maxHeartbeats 8000000 in
theorem walk_fnFlowLeast (w : World) (A : Option Addr) (c : Nat) (xs : List Int) (h : RV w w.heap.size A (bts xs)) (hc : xs.length ≤ c) (hm : c ≤ maxLen) (hb : ∀ x ∈ xs, 0 ≤ x ∧ x ≤ 255) :
    Calls Tryd.prog 11 #[.slice A xs.length c] w fun e w' => e = .returned (.bool true) ∧ Below w.heap.size w w' := by
  unfold maxLen at hm
  by_cases hl : xs.length ≤ 1048576
  · have HD := Lib.hid (drawFlowLeast_any A c xs w h hc hl hb)
    clear hb h
    have hd8 : decide ((1048576 : Int) < (xs.length : Int)) = false := decide_eq_false (by omega)
    go_enter Tryd.func11, Tryd.ntmps11
    go_wp2_with fail
    refine HD.out.mono ?_
    rintro e w1 ⟨v, os, rfl, o, hol, bel⟩
    obtain ⟨A1, c1, rfl, hr1, -⟩ := own_form o
    clear o HD
    go_wp2_with fail
    refine (impl_flowLeast _ _ _ _ hr1 (by omega)).mono ?_
    rintro e w2 ⟨rfl, b2⟩
    have hr1 := RV.step hr1 b2
    replace bel := below_step bel b2
    go_wp2_with fail
    refine (spec_flowLeast _ _ _ _ hr1 (by omega)).mono ?_
    rintro e w3 ⟨rfl, b3⟩
    have hr1 := RV.step hr1 b3
    replace bel := below_step bel b3
    cases hd : dishB os
    · rw [endB_dish _ hd]
      clear hd
      go_wp2_with fail
      refine (alive_any _).mono ?_
      rintro e w99 ⟨rfl, b99⟩
      go_wp2
      go_ret
      exact ⟨rfl, below_step bel b99⟩
    · obtain ⟨i1, i2, i3, i4, i5⟩ := least_bounds hd
      have h6 := dish_len hd
      have HA := Lib.hid (dish_all hd)
      have H5 := Lib.hid i5
      have HB1 := Lib.hid (fun k => take_map_bound (·.1) os k (fun d hx => ((dish_all hd) d hx).1) h6)
      have HB2 := Lib.hid (fun k => take_map_bound (·.2) os k (fun d hx => ((dish_all hd) d hx).2) h6)
      clear hd i5
      generalize endB os (bestF os) = x at *
      have hz1 : decide (x < 0) = false := decide_eq_false (by omega)
      go_wp2
      go_loopw [5, 6, 7] (fun p q i wr => ∃ k : Nat, k ≤ os.length ∧ p = .int .i64 ((os.take k).map (·.1)).sum ∧ q = .int .i64 ((os.take k).map (·.2)).sum ∧ i = .int .i64 k ∧ Below w3.heap.size w3 wr) (fun _ _ i _ => os.length - (intOf i).toNat)
      case atStart => exact ⟨0, Nat.zero_le _, rfl, rfl, rfl, Below.refl _ _⟩
      case round =>
        obtain ⟨k, hk, rfl, rfl, rfl, hW⟩ := hrel
        by_cases hlt : k < os.length
        · obtain ⟨b, off, rfl, hbl, hcc⟩ := SD.at_ (RV.step hr1 hW) (by omega)
          obtain ⟨e1, e2⟩ := hcc k hlt
          have hb1 := HB1.out k
          have hb2 := HB2.out k
          have hx := H5.out k hlt
          have ha := HA.out _ (List.getElem_mem hlt)
          have HS1 := Lib.hid (take_map_succ (·.1) os k hlt)
          have HS2 := Lib.hid (take_map_succ (·.2) os k hlt)
          clear hcc
          generalize ((os.take k).map (·.1)).sum = s1 at *
          generalize ((os.take k).map (·.2)).sum = s2 at *
          generalize os[k] = d at *
          obtain ⟨p, q⟩ := d
          dsimp only at e1 e2 hx ha HS1 HS2
          have hs := hW.size
          have hg1 : decide (x < p + q) = false := decide_eq_false (by omega)
          go_wp2_with fail
          go_quiet (fail)
          go_wp2
          go_roundw
          case rel => exact ⟨k + 1, by omega, by rw [HS1.out], by rw [HS2.out], by go_num, below_drewN hW _⟩
          case measure => (simp [intOf]) <;> omega
        · obtain rfl : k = os.length := by omega
          rw [List.take_length]
          have hg1 : decide ((os.map (·.1)).sum ≤ x) = true := decide_eq_true i1
          have hg2 : decide ((os.map (·.2)).sum ≤ x) = true := decide_eq_true i2
          have hb1 := HB1.out os.length
          have hb2 := HB2.out os.length
          rw [List.take_length] at hb1 hb2
          go_wp2
          go_ret
          exact ⟨rfl, below_step bel hW⟩
  · go_enter Tryd.func11, Tryd.ntmps11
    go_wp2
    go_ret
    exact ⟨rfl, Below.refl _ _⟩
end Go.Proofs.YtnehedcelfpegaaDoor
