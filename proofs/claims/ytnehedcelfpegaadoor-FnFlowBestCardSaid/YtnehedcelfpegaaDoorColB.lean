/- FnFlowBest: the law's walk. -/
import Derived.Test.YtnehedcelfpegaaDoorSame
import Derived.Test.YtnehedcelfpegaaDoorFlow5
import Derived.Test.YtnehedcelfpegaaDoorFlowT
import Derived.Deep.RegionHeld3
import Derived.Lib.MinMax
set_option linter.unusedVariables false
set_option linter.unusedSimpArgs false
namespace Go.Proofs.YtnehedcelfpegaaDoor
open Go.ChangeShapes Go.WideShapes Go.ChangeAt Go.RowKit

theorem split_at (l : List Int) (j : Nat) (h : j + 1 < l.length) : ∃ p y x r, l = p ++ y :: x :: r ∧ p.length = j := by
  refine ⟨l.take j, l[j], l[j + 1], l.drop (j + 2), ?_, by rw [List.length_take]; omega⟩
  have h1 := List.drop_eq_getElem_cons (l := l) (i := j) (by omega)
  have h2 := List.drop_eq_getElem_cons (l := l) (i := j + 1) h
  rw [← h2, ← h1, List.take_append_drop]
theorem order_swap {l : List Int} {m : Nat} (h : orderB l m = true) (j : Nat) (hj : j + 1 < l.length) : orderB ((l.set j (at0 l (j + 1))).set (j + 1) (at0 l j)) m = true := by
  obtain ⟨p, y, x, r, e, hp⟩ := split_at l j hj
  have e2 : (l.set j (at0 l (j + 1))).set (j + 1) (at0 l j) = swp l j := by
    rw [swp, List.set_comm _ _ (by omega)]
  rw [e2]
  subst hp
  rw [e, swp_app]
  rw [e] at h
  rw [orderB_iff] at h ⊢
  have hperm : (p ++ x :: y :: r).Perm (p ++ y :: x :: r) := List.Perm.append_left p (List.Perm.swap y x r)
  exact ⟨by rw [hperm.length_eq]; exact h.1, hperm.nodup_iff.2 h.2.1, fun z hz => h.2.2 z (hperm.mem_iff.1 hz)⟩
theorem best_swap {ds : List Dsh} (h : dishB ds = true) (j : Nat) (hj : j + 1 < (bestF ds).length) :
    endB ds (bestF ds) ≤ endB ds (((bestF ds).set j (at0 (bestF ds) (j + 1))).set (j + 1) (at0 (bestF ds) j)) :=
  best_least h (order_swap (bestF_order h) j hj)
theorem end_nonneg {ds : List Dsh} (h : dishB ds = true) : 0 ≤ endB ds (bestF ds) := (end_bounds h (bestF_order h)).2.2.2.1
theorem own_nilB {w : World} {base n : Nat} {e : TypeId} {size : Nat} {v : Value} {cs : List Value} (h : w.ownsRow base e size v (0 + n) ([] ++ cs)) : w.ownsRow base e size v n cs := by
  rwa [Nat.zero_add, List.nil_append] at h
set_option maxRecDepth 20000 in
set_option maxHeartbeats 2000000 in
theorem walk_fnFlowBest (w : World) (A : Option Addr) (c : Nat) (xs : List Int) (h : RV w w.heap.size A (bts xs)) (hc : xs.length ≤ c) (hm : c ≤ maxLen) (hb : ∀ x ∈ xs, 0 ≤ x ∧ x ≤ 255) :
    Calls Tryd.prog 9 #[.slice A xs.length c] w fun e w' => e = .returned (.bool true) ∧ Below w.heap.size w w' := by
  unfold maxLen at hm
  by_cases hl : xs.length ≤ 1048576
  · have HD := Lib.hid (drawFlowBest_any A c xs w h hc hl hb)
    clear hb h
    have hd8 : decide ((1048576 : Int) < (xs.length : Int)) = false := decide_eq_false (by omega)
    go_enter Tryd.func9, Tryd.ntmps9
    go_wp2_with fail
    refine HD.out.mono ?_
    rintro e w1 ⟨v, os, rfl, o, hol, bel⟩
    obtain ⟨A1, c1, rfl, hr1, -⟩ := own_form o
    clear o HD
    have htl := bestF_len os (by omega)
    go_wp2_with fail
    refine (impl_flowBest A1 c1 os _ hr1 (by omega)).mono ?_
    rintro e w2 ⟨v, rfl, o, b2⟩
    have hr1 := RV.step hr1 b2
    obtain ⟨A2, c2, rfl, hr2, hc2, -⟩ := own_form o
    clear o
    replace bel := below_step bel b2
    go_wp2_with fail
    refine (spec_flowBest A1 c1 os _ hr1 (by omega)).mono ?_
    rintro e w3 ⟨v, rfl, o, b3⟩
    have hr1 := RV.step hr1 b3
    have hr2 := RV.step hr2 b3
    obtain ⟨A3, c3, rfl, hr3, -⟩ := own_form o
    clear o
    replace bel := below_step bel b3
    go_wp2_with fail
    refine (sameInts_e A2 A3 c2 c3 _ _ hr2 hr3 htl).mono ?_
    rintro e w4 ⟨rfl, b4⟩
    have hr1 := RV.step hr1 b4
    have hr2 := RV.step hr2 b4
    clear hr3
    replace bel := below_step bel b4
    go_wp2_with fail
    refine (spec_dishesValid A1 c1 os _ _ hr1 (by omega)).mono ?_
    rintro e w' ⟨rfl, rfl⟩
    cases hs : dishB os
    · rw [bestF_no hs]
      clear hs
      go_wp2_with fail
      refine (alive_any _).mono ?_
      rintro e w99 ⟨rfl, b99⟩
      go_wp2
      go_ret
      exact ⟨rfl, below_step bel b99⟩
    · have HSW := Lib.hid (fun j hj => best_swap hs j hj)
      have HO := Lib.hid (bestF_order hs)
      have hx0 := end_nonneg hs
      have hlen : (bestF os).length = os.length := ord_len HO.out
      have h6 := dish_len hs
      clear hs
      generalize bestF os = ys at *
      go_wp2_with fail
      have hx := impl_flowEnd A1 A2 c1 c2 os ys w4 hr1 hr2 (by omega) htl
      rw [hlen] at hx
      refine hx.mono ?_
      rintro e w5 ⟨rfl, b5⟩
      have hr1 := RV.step hr1 b5
      have hr2 := RV.step hr2 b5
      replace bel := below_step bel b5
      clear hx
      generalize endB os ys = x at *
      go_wp2
      go_loopw [6] (fun i wr => ∃ k : Nat, (1 ≤ k ∧ k ≤ ys.length + 1) ∧ i = .int .i64 (k : Int) ∧ Below w5.heap.size w5 wr) (fun i _ => ys.length + 1 - (intOf i).toNat)
      case atStart => exact ⟨1, ⟨Nat.le_refl _, by omega⟩, rfl, Below.refl _ _⟩
      case round =>
        obtain ⟨k, ⟨hk1, hk⟩, rfl, hW⟩ := hrel
        by_cases hlt : k < ys.length
        · have hq1 : RV wr wr.heap.size A1 (dishes os) := RV.step hr1 hW
          have hq2 : IS wr wr.heap.size A2 ys := RV.step hr2 hW
          obtain ⟨j, hj⟩ : ∃ j : Nat, j + 1 = k := ⟨k - 1, by omega⟩
          have hsw := HSW.out j (by omega)
          rw [hj] at hsw
          have hwk : (k : Int) - 1 = (j : Int) := by omega
          have hjk : j < k := by omega
          clear hj
          have hltz2 : (k : Int) < (os.length : Int) := by omega
          have hltz3 : (j : Int) < (os.length : Int) := by omega
          have hltn : k < os.length := by omega
          have hltj : j < os.length := by omega
          obtain ⟨b, off, rfl, hbl, hcc⟩ := IS.at0_ hq2 (by omega)
          have HQ1 := Lib.hid hq1
          have HSW2 := Lib.hid hsw
          clear hq1 hsw
          have hcj := hcc j (by omega)
          have hck := hcc k hlt
          have hjy : j < ys.length := by omega
          have hos0 : 0 < os.length := by omega
          have HIL : Hid ((ints ys).length = os.length * 1) := Lib.hid (by rw [ints_length, Nat.mul_one]; exact hlen)
          clear hcc
          go_wp2_with (at_builtin; (refine wpList_app _ rfl _ _ 23 rfl int_EId wr.heap.size (.slice (some ⟨wr.heap.size, 0, none⟩) 0 0) 0 [] rfl (own_empty _ _ 1 _ (Nat.le_refl _)) (some ⟨b, off, none⟩) os.length c2 (ints ys) rfl HIL.out (RV.below hq2 (below_al (Below.refl _ _) _)) (ints_one _) (le_max (by omega)) (by omega) (by simp) ?_); (intro v6 w6 hO6 hg6 _); (have b6 : Below wr.heap.size wr w6 := below_app (below_al (Below.refl _ _) _) (own_empty _ _ 1 _ (Nat.le_refl _)) hg6); (have hO := own_nilB hO6); (obtain ⟨A6, c6, rfl, -⟩ := own_form hO); (obtain ⟨g, rfl, hgb⟩ := own_head hO hos0); (have e1 : w6.cell? ⟨b, off + j, none⟩ = some (.int .i64 (at0 ys j)) := (b6.cell (p := ⟨b, off + j, none⟩) hbl).trans hcj); (have e2 : w6.cell? ⟨b, off + k, none⟩ = some (.int .i64 (at0 ys k)) := (b6.cell (p := ⟨b, off + k, none⟩) hbl).trans hck); (obtain ⟨f1, f2⟩ := row_at0 hO j hjy); (obtain ⟨f3, f4⟩ := row_at0 hO k hlt); (have hne : b ≠ g := by omega); (have hne2 : g ≠ b := by omega); (have HO7 := Lib.hid (row_set (row_set hO j (at0 ys k)) k (at0 ys j))); (have HB6 := Lib.hid b6); (have hs6 := b6.size); (clear hO6 hg6 hO b6))
          have HZL := Lib.hid (show ((ys.set j (at0 ys k)).set k (at0 ys j)).length = os.length by simp [hlen])
          have HX : ∀ W, SD W W.heap.size A1 os → IS W W.heap.size (some ⟨g, 0, none⟩) ((ys.set j (at0 ys k)).set k (at0 ys j)) → Calls Tryd.prog 36 #[.slice A1 os.length c1, .slice (some ⟨g, 0, none⟩) os.length c6] W fun e w' => e = .returned (.int .i64 (endB os ((ys.set j (at0 ys k)).set k (at0 ys j)))) ∧ Below W.heap.size W w' := fun W h1 h2 => by
            have := impl_flowEnd A1 (some ⟨g, 0, none⟩) c1 c6 os _ W h1 h2 (by omega) (by rw [HZL.out]; omega)
            rw [HZL.out] at this
            exact this
          have hsw2 := HSW2.out
          generalize endB os ((ys.set j (at0 ys k)).set k (at0 ys j)) = y at *
          obtain ⟨A7, c7, e7, r7, -⟩ := own_form HO7.out
          injection e7 with e71 _ _
          subst e71
          have b7 : Below wr.heap.size wr ((w6.setCell ⟨g, j, none⟩ (.int .i64 (at0 ys k))).setCell ⟨g, k, none⟩ (.int .i64 (at0 ys j))) := (HB6.out.setCell hgb _).setCell hgb _
          refine (HX _ (RV.step HQ1.out b7) r7).mono ?_
          rintro e w8 ⟨rfl, b8⟩
          have hg1 : decide (y < x) = false := decide_eq_false (by omega)
          go_wp2
          go_roundw
          case rel => exact ⟨k + 1, ⟨by omega, by omega⟩, by go_num, below_step (below_step hW b7) b8⟩
          case measure => (simp [intOf]) <;> omega
        · have hz2 : decide ((k : Int) < (ys.length : Int)) = false := decide_eq_false (by omega)
          have hr2' := RV.step hr2 hW
          replace bel := below_step bel hW
          have hz3 : decide ((0 : Int) ≤ x) = true := decide_eq_true hx0
          clear hr1 hr2
          go_wp2_with fail
          have hx := impl_orderOk A2 c2 ys os.length _ hr2' (by omega) (by omega)
          rw [HO.out, hlen] at hx
          refine hx.mono ?_
          rintro e w9 ⟨rfl, b9⟩
          go_wp2
          go_ret
          exact ⟨rfl, below_step bel b9⟩
  · go_enter Tryd.func9, Tryd.ntmps9
    go_wp2
    go_ret
    exact ⟨rfl, Below.refl _ _⟩
end Go.Proofs.YtnehedcelfpegaaDoor
