/- FnTogetherWaits: the law's walk. -/
import Derived.Test.YtnehedcelfpegaaDoorSame
import Derived.Test.YtnehedcelfpegaaDoorWait
import Derived.Deep.RegionHeld3
import Derived.Lib.MinMax
set_option linter.unusedVariables false
set_option linter.unusedSimpArgs false
namespace Go.Proofs.YtnehedcelfpegaaDoor
open Go.ChangeShapes Go.WideShapes Go.ChangeAt Go.RowKit

theorem wait_law {xs order : List Int} (h : spansB xs = true) (ho : orderB order xs.length = true) :
    waitF xs (togF xs) ≤ waitF xs order ∧ 0 ≤ waitF xs (togF xs) ∧ waitF xs order + waitF xs order.reverse = xs.sum * max ((xs.length : Int) - 1) 0 := by
  have h1 := wait_least h ho
  have ht := togF_order h
  rw [waitF_ok h ho, waitF_ok h ht, waitF_ok h (by rw [order_reverse_iff]; exact ho)]
  refine ⟨h1, wC_nonneg (sp xs) (fun x => (spans_bound h x.toNat).1) _ 0 (Int.le_refl _), ?_⟩
  rw [wC_both, sum_order ho, ord_len ho]
  by_cases h0 : xs.length = 0
  · have : xs = [] := List.eq_nil_of_length_eq_zero h0
    subst this
    simp
  · rw [show max ((xs.length : Int) - 1) 0 = (xs.length : Int) - 1 by omega, Int.mul_comm]
theorem wait_neg (xs order : List Int) : waitF xs order = -1 ∨ (0 ≤ waitF xs order ∧ spansB xs = true ∧ orderB order xs.length = true) := by
  cases h : spansB xs
  · exact .inl (waitF_spans order h)
  · cases ho : orderB order xs.length
    · exact .inl (waitF_order ho)
    · exact .inr ⟨by rw [waitF_ok h ho]; exact wC_nonneg (sp xs) (fun x => (spans_bound h x.toNat).1) _ 0 (Int.le_refl _), rfl, rfl⟩
theorem rev_take_succ (l : List Int) (k : Nat) (h : k < l.length) : l.reverse.take (k + 1) = l.reverse.take k ++ [at0 l (l.length - 1 - k)] := by
  rw [take_snoc _ _ (by simpa using h)]
  congr 2
  rw [← at0_eq (by simpa using h), ← at0_eq (by omega)]
  simp
set_option maxRecDepth 20000 in
set_option maxHeartbeats 2000000 in
theorem walk_fnTogetherWaits (w : World) (A : Option Addr) (c : Nat) (xs : List Int) (h : RV w w.heap.size A (bts xs)) (hc : xs.length ≤ c) (hm : c ≤ maxLen) (hb : ∀ x ∈ xs, 0 ≤ x ∧ x ≤ 255) :
    Calls Tryd.prog 8 #[.slice A xs.length c] w fun e w' => e = .returned (.bool true) ∧ Below w.heap.size w w' := by
  unfold maxLen at hm
  by_cases hl : xs.length ≤ 1048576
  · have HD := Lib.hid (drawTogetherWaits_any A c xs w h hc hl hb)
    clear hb h
    have hd8 : decide ((1048576 : Int) < (xs.length : Int)) = false := decide_eq_false (by omega)
    go_enter Tryd.func8, Tryd.ntmps8
    go_wp2_with fail
    refine HD.out.mono ?_
    rintro e w1 ⟨v, v2, os, ys, rfl, o, o2, hol, bel⟩
    obtain ⟨A1, c1, rfl, hr1, -⟩ := own_form o
    obtain ⟨A2, c2, rfl, hr2, hc2, -⟩ := own_form o2
    clear o o2 HD
    go_wp2_with fail
    refine (impl_togetherWaits A1 A2 c1 c2 os ys _ hr1 hr2 (by omega) (by omega)).mono ?_
    rintro e w2 ⟨rfl, b2⟩
    have hr1 := RV.step hr1 b2
    have hr2 := RV.step hr2 b2
    replace bel := below_step bel b2
    go_wp2_with fail
    refine (spec_togetherWaits A1 A2 c1 c2 os ys _ hr1 hr2 (by omega) (by omega) hc2).mono ?_
    rintro e w3 ⟨rfl, b3⟩
    have hr1 := RV.step hr1 b3
    have hr2 := RV.step hr2 b3
    replace bel := below_step bel b3
    rcases wait_neg os ys with hx | ⟨hx0, hs, ho⟩
    · rw [hx]
      clear hx
      go_wp2_with fail
      refine (alive_any _).mono ?_
      rintro e w99 ⟨rfl, b99⟩
      go_wp2
      go_ret
      exact ⟨rfl, below_step bel b99⟩
    · obtain ⟨i1, i2, i3⟩ := wait_law hs ho
      have h6 := spans_len hs
      have hyl1 : ys.length ≤ os.length := by rw [ord_len ho]; exact Nat.le_refl _
      have hyl2 : os.length ≤ ys.length := by rw [ord_len ho]; exact Nat.le_refl _
      have HSB := Lib.hid (fun x (hx : x ∈ os) => by
        obtain ⟨k, hk, e⟩ := List.getElem_of_mem hx
        have := spans_bound hs k
        rw [← at0_eq hk, e] at this
        exact (show -1000000 ≤ x ∧ x ≤ 1000000 by omega))
      have HTL := Lib.hid (togF_len os (by omega))
      have hub : waitF os ys ≤ 1080 := by
        rw [waitF_ok hs ho]
        have := (wait_acc (order := ys) hs (by omega) ys.length).2
        rwa [List.take_length] at this
      have hub2 : 0 ≤ waitF os ys.reverse ∧ waitF os ys.reverse ≤ 1080 := by
        have ho2 : orderB ys.reverse os.length = true := by rw [order_reverse_iff]; exact ho
        rw [waitF_ok hs ho2]
        have := wait_acc (order := ys.reverse) hs (by simp; omega) ys.reverse.length
        rwa [List.take_length] at this
      have hsb : 0 ≤ os.sum ∧ os.sum ≤ 180 := by
        have h1 := sum_order (xs := os) ho
        have h2 := sC_bound os hs ys
        omega
      have I3 := Lib.hid i3
      clear hs ho i3
      generalize waitF os ys = x at *
      have hz1 : decide (x < 0) = false := decide_eq_false (by omega)
      have hyz : decide ((0 : Int) ≤ (ys.length : Int) - 1) = decide (0 < ys.length) := by rw [decide_eq_decide]; omega
      clear hyz
      go_wp2
      go_loopw [6, 7] (fun v i wr => ∃ (t : Nat) (v0 : Value), t ≤ ys.length ∧ v0 = v ∧ i = .int .i64 ((ys.length : Int) - 1 - (t : Int)) ∧ OI wr w3.heap.size v0 (ys.reverse.take t) ∧ Below w3.heap.size w3 wr) (fun _ i _ => (intOf i + 1).toNat)
      case atStart => exact ⟨0, _, Nat.zero_le _, rfl, by first | rfl | (congr 1; omega), own_empty w3 _ _ _ (Nat.le_refl _), below_al (Below.refl _ _) _⟩
      case round =>
        obtain ⟨t, v, ht, rfl, rfl, hO, hW⟩ := hrel
        by_cases hlt : t < ys.length
        · obtain ⟨j, hj⟩ : ∃ j : Nat, ys.length - 1 - t = j := ⟨_, rfl⟩
          have hjz : (ys.length : Int) - 1 - (t : Int) = (j : Int) := by omega
          have hjl : j < ys.length := by omega
          have HRT := Lib.hid (show ys.reverse.take (t + 1) = ys.reverse.take t ++ [at0 ys j] by rw [rev_take_succ ys t hlt, hj])
          have hlen : (ys.reverse.take t).length = t := by rw [List.length_take, List.length_reverse]; omega
          have HNX := Lib.hid (show ((j : Int) - 1) = (ys.length : Int) - 1 - ((t + 1 : Nat) : Int) by omega)
          rw [hjz]
          obtain ⟨b, off, rfl, hbl, hcc⟩ := IS.at0_ (show IS wr wr.heap.size A2 ys from RV.step hr2 hW) (by omega)
          have e1 := hcc j hjl
          have hO2 : wr.ownsRow w3.heap.size 3 1 v t (ints (ys.reverse.take t)) := by unfold OI at hO; rwa [hlen] at hO
          clear hcc hO hjz hj
          go_wp2_with (at_builtin; refine wpList_app _ rfl _ _ 23 rfl int_EId w3.heap.size v t _ rfl (hO2.alloc _) (some ⟨_, 0, none⟩) 1 1 [.int .i64 (at0 ys j)] rfl rfl (rv_new _ _ _) (one1 _) (le_max (by omega)) (by omega) (below_al hW _).size ?_; intro v5 w5 hO5 hg5 _)
          go_roundw
          case rel => exact ⟨t + 1, _, by omega, rfl, by rw [← HNX.out], by rw [HRT.out]; exact oi_pushD (by rw [hlen]; exact hO5), below_app (below_al hW _) (hO2.alloc _) hg5⟩
          case measure => (simp [intOf]) <;> omega
        · obtain rfl : t = ys.length := by omega
          have hfull : ys.reverse.take ys.length = ys.reverse := List.take_of_length_le (by simp)
          rw [hfull] at hO
          have hr1' := RV.step hr1 hW
          have hneg : (ys.length : Int) - 1 - (ys.length : Int) = -1 := by omega
          rw [hneg]
          obtain ⟨A5, c5, rfl, hr5, -⟩ := own_form hO
          replace bel := below_step bel hW
          have HRL := Lib.hid (show ys.reverse.length = ys.length from List.length_reverse)
          rw [HRL.out]
          clear hr1 hr2 hO
          go_wp2_with fail
          refine (impl_togetherBest A1 c1 os _ hr1' (by omega)).mono ?_
          rintro e w6 ⟨v, rfl, o, b6⟩
          have hr1' := RV.step hr1' b6
          have hr5 := RV.step hr5 b6
          replace bel := below_step bel b6
          obtain ⟨A6, c6, rfl, hr6, -⟩ := own_form o
          clear o
          go_wp2_with fail
          refine (impl_togetherWaits A1 A6 c1 c6 os _ _ hr1' hr6 (by omega) HTL.out).mono ?_
          rintro e w7 ⟨rfl, b7⟩
          have hr1' := RV.step hr1' b7
          have hr5 := RV.step hr5 b7
          replace bel := below_step bel b7
          generalize waitF os (togF os) = least at *
          go_wp2_with fail
          have hx := impl_togetherWaits A1 A5 c1 c5 os ys.reverse _ hr1' hr5 (by omega) (by rw [HRL.out]; omega)
          rw [HRL.out] at hx
          refine hx.mono ?_
          rintro e w8 ⟨rfl, b8⟩
          have hr1' := RV.step hr1' b8
          replace bel := below_step bel b8
          generalize waitF os ys.reverse = back at *
          go_wp2_with fail
          refine (lsumOf_any A1 c1 os _ _ hr1' (by omega) HSB.out).mono ?_
          rintro e w9 ⟨rfl, rfl⟩
          generalize os.sum = S at *
          obtain ⟨mm, hmm⟩ : ∃ mm, max ((os.length : Int) - 1) 0 = mm := ⟨_, rfl⟩
          have hmb : 0 ≤ mm ∧ mm ≤ 5 := by omega
          rw [hmm] at I3
          have hmul : x + back = S * mm := I3.out
          go_wp2_with fail
          try go_ret
          exact ⟨rfl, bel⟩
  · go_enter Tryd.func8, Tryd.ntmps8
    go_wp2
    go_ret
    exact ⟨rfl, Below.refl _ _⟩
end Go.Proofs.YtnehedcelfpegaaDoor
