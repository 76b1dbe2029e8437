/- FnFlowEnd: the law's walk. -/
import Derived.Test.YtnehedcelfpegaaDoorSame
import Derived.Test.YtnehedcelfpegaaDoorFlow5
import Derived.Test.YtnehedcelfpegaaDoorFlowT
import Derived.Test.YtnehedcelfpegaaDoorColD
import Derived.StillTailTactics
import Derived.Deep.RegionHeld3
import Derived.Lib.MinMax
set_option linter.unusedVariables false
set_option linter.unusedSimpArgs false
namespace Go.Proofs.YtnehedcelfpegaaDoor
open Go.ChangeShapes Go.WideShapes Go.ChangeAt Go.RowKit

theorem rv_likeE {w w' : World} {B : Nat} {A : Option Addr} {cs : List Value} (h : RV w B A cs) (hh : w'.heap = w.heap) : RV w' B A cs := h.keep fun p _ => by unfold World.cell?; rw [hh]
theorem end_law {ds : List Dsh} {order : List Int} (h : dishB ds = true) (h2 : orderB order ds.length = true) :
    0 ≤ endB ds order ∧ 0 ≤ endB ds (bestF ds) ∧ endB ds (bestF ds) ≤ endB ds order ∧ endB (ds.map swD) order.reverse = endB ds order :=
  ⟨(end_bounds h h2).2.2.2.1, (end_bounds h (bestF_order h)).2.2.2.1, best_least h h2, end_turn h h2⟩
theorem end_cases (ds : List Dsh) (order : List Int) : endB ds order = -1 ∨ (dishB ds = true ∧ orderB order ds.length = true) := by
  cases h : dishB ds
  · exact .inl (endB_dish order h)
  · cases ho : orderB order ds.length
    · exact .inl (endB_order ho)
    · exact .inr ⟨rfl, rfl⟩
theorem take_snocE (l : List Int) (k : Nat) (h : k < l.length) : l.take (k + 1) = l.take k ++ [at0 l k] := by
  rw [List.take_succ_eq_append_getElem h, at0_eq h]
theorem rev_take_succE (l : List Int) (k : Nat) (h : k < l.length) : l.reverse.take (k + 1) = l.reverse.take k ++ [at0 l (l.length - 1 - k)] := by
  rw [take_snocE _ _ (by simpa using h)]
  congr 2
  rw [← at0_eq (by simpa using h), ← at0_eq (by omega)]
  simp
theorem own_apart {w : World} {lo lo' n m sz sz' : Nat} {T T' : TypeId} {u v : Value} {cs ds : List Value} (h : w.ownsRow lo T sz u n cs) (h' : w.ownsRow lo' T' sz' v m ds) (hT : T ≠ T') : v.ownBlock = none ∨ v.ownBlock ≠ u.ownBlock := by
  rcases h'.2 with ⟨rfl, _⟩ | ⟨g', cap', cur', rfl, _, hg', _⟩
  · exact .inl rfl
  · refine .inr fun e => ?_
    rcases h.2 with ⟨rfl, _⟩ | ⟨g, cap, cur, rfl, _, hg, _⟩
    · simp [Value.ownBlock] at e
    · simp [Value.ownBlock] at e
      subst e
      rw [hg] at hg'
      injection hg' with hg'
      injection hg' with _ e2 _
      exact hT e2
theorem dish_int : (32 : TypeId) ≠ 3 := by decide
theorem swd_take_succ (ds : List Dsh) (k : Nat) (h : k < ds.length) : (ds.map swD).take (k + 1) = (ds.map swD).take k ++ [(dC ds k, dP ds k)] := by
  rw [List.take_succ_eq_append_getElem (by simpa using h)]
  congr 2
  simp [swD, dC, dP, h]
set_option maxRecDepth 20000 in
set_option maxHeartbeats 8000000 in
theorem walk_fnFlowEnd (w : World) (A : Option Addr) (c : Nat) (xs : List Int) (h : RV w w.heap.size A (bts xs)) (hc : xs.length ≤ c) (hm : c ≤ maxLen) (hb : ∀ x ∈ xs, 0 ≤ x ∧ x ≤ 255) :
    Calls Tryd.prog 10 #[.slice A xs.length c] w fun e w' => e = .returned (.bool true) ∧ Below w.heap.size w w' := by
  unfold maxLen at hm
  by_cases hl : xs.length ≤ 1048576
  · have HD := Lib.hid (drawFlowEnd_any A c xs w h hc hl hb)
    clear hb h
    have hd8 : decide ((1048576 : Int) < (xs.length : Int)) = false := decide_eq_false (by omega)
    go_enter Tryd.func10, Tryd.ntmps10
    go_wp2_with fail
    refine HD.out.mono ?_
    rintro e w1 ⟨v, v2, os, ys, rfl, o, o2, hol, bel⟩
    obtain ⟨A1, c1, rfl, hr1, -⟩ := own_form o
    obtain ⟨A2, c2, rfl, hr2, hc2, -⟩ := own_form o2
    clear o o2 HD
    go_wp2_with fail
    refine (impl_flowEnd A1 A2 c1 c2 os ys _ hr1 hr2 (by omega) (by omega)).mono ?_
    rintro e w2 ⟨rfl, b2⟩
    have hr1 := RV.step hr1 b2
    have hr2 := RV.step hr2 b2
    replace bel := below_step bel b2
    go_wp2_with fail
    refine (spec_flowEnd A1 A2 c1 c2 os ys _ hr1 hr2 (by omega) (by omega) hc2).mono ?_
    rintro e w3 ⟨rfl, b3⟩
    have hr1 := RV.step hr1 b3
    have hr2 := RV.step hr2 b3
    replace bel := below_step bel b3
    rcases end_cases os ys with hx | ⟨hd, ho⟩
    · rw [hx]
      clear hx
      go_wp2_with fail
      refine (alive_any _).mono ?_
      rintro e w99 ⟨rfl, b99⟩
      go_wp2
      go_ret
      exact ⟨rfl, below_step bel b99⟩
    · obtain ⟨i0, i1, i2, i3⟩ := end_law hd ho
      have I3 := Lib.hid i3
      have hyl := ord_len ho
      have h6 := dish_len hd
      clear i3 hd ho
      generalize endB os ys = x at *
      generalize hbst : endB os (bestF os) = best at *
      have HBEST := Lib.hid hbst
      clear hbst
      have hz1 : decide (x < 0) = false := decide_eq_false (by omega)
      have hyl1 : ys.length ≤ os.length := by rw [hyl]; exact Nat.le_refl _
      have hyl2 : os.length ≤ ys.length := by rw [hyl]; exact Nat.le_refl _
      have HYL := Lib.hid hyl
      clear hyl
      go_wp2
      go_loopw [6, 7, 8] (fun u v i wr => ∃ (k : Nat) (u0 v0 : Value), k ≤ os.length ∧ u0 = u ∧ v0 = v ∧ i = .int .i64 (k : Int) ∧ OD wr w3.heap.size u0 ((os.map swD).take k) ∧ OI wr w3.heap.size v0 (ys.reverse.take k) ∧ Below w3.heap.size w3 wr) (fun _ _ i _ => os.length - (intOf i).toNat)
      case atStart => exact ⟨0, _, _, Nat.zero_le _, rfl, rfl, rfl, (own_empty w3 _ 2 _ (Nat.le_refl _)).alloc _, own_empty' (w3.alloc (.cells #[] 32)) _ _ _ (by simp) (by simp), below_al (below_al (Below.refl _ _) _) _⟩
      case round =>
        obtain ⟨k, u, v, hk, rfl, rfl, rfl, hU, hV, hW⟩ := hrel
        by_cases hlt : k < os.length
        · obtain ⟨j, hj⟩ : ∃ j : Nat, ys.length - 1 - k = j := ⟨_, rfl⟩
          have hjz : (ys.length : Int) - 1 - (k : Int) = (j : Int) := by omega
          have hjz2 : (os.length : Int) - 1 - (k : Int) = (j : Int) := by omega
          have hjl : j < ys.length := by omega
          have HRT := Lib.hid (show ys.reverse.take (k + 1) = ys.reverse.take k ++ [at0 ys j] by rw [rev_take_succE ys k (by omega), hj])
          have HST := Lib.hid (swd_take_succ os k hlt)
          have hlu : ((os.map swD).take k).length = k := by rw [List.length_take, List.length_map]; omega
          have hlv : (ys.reverse.take k).length = k := by rw [List.length_take, List.length_reverse]; omega
          obtain ⟨b, off, rfl, hbl, hcc⟩ := SD.atD (show SD wr wr.heap.size A1 os from RV.step hr1 hW) (by omega)
          obtain ⟨b', off', rfl, hbl', hcc'⟩ := IS.at0_ (show IS wr wr.heap.size A2 ys from RV.step hr2 hW) (by omega)
          obtain ⟨d1, d2⟩ := hcc k hlt
          have e1 := hcc' j hjl
          have hU2 : wr.ownsRow w3.heap.size 32 2 u k (dishes ((os.map swD).take k)) := by unfold OD at hU; rwa [hlu] at hU
          have hV2 : wr.ownsRow w3.heap.size 3 1 v k (ints (ys.reverse.take k)) := by unfold OI at hV; rwa [hlv] at hV
          clear hcc hcc' hU hV hj
          have hUd : wr.drew.ownsRow w3.heap.size 32 2 u k (dishes ((os.map swD).take k)) := own_likeD hU2 rfl
          have hVd : wr.drew.ownsRow w3.heap.size 3 1 v k (ints (ys.reverse.take k)) := own_likeD hV2 rfl
          have hWd := hW.drew
          have e1d : wr.drew.cell? ⟨b', off' + j, none⟩ = some (.int .i64 (at0 ys j)) := e1
          go_wp2_with fail
          go_region_law (first | (with_reducible refine app_only ?_; have hUx : ((wr.alloc (.cells #[.int .i64 (dC os k), .int .i64 (dP os k)] 32)).drew).ownsRow w3.heap.size 32 2 u k (dishes ((os.map swD).take k)) := own_likeD (w := wr.alloc (.cells #[.int .i64 (dC os k), .int .i64 (dP os k)] 32)) (hU2.alloc _) rfl; have hVx : ((wr.alloc (.cells #[.int .i64 (dC os k), .int .i64 (dP os k)] 32)).drew).ownsRow w3.heap.size 3 1 v k (ints (ys.reverse.take k)) := own_likeD (w := wr.alloc (.cells #[.int .i64 (dC os k), .int .i64 (dP os k)] 32)) (hV2.alloc _) rfl; have hWx : Below w3.heap.size w3 ((wr.alloc (.cells #[.int .i64 (dC os k), .int .i64 (dP os k)] 32)).drew) := (below_al hW _).drew; refine step_app ((wr.alloc (.cells #[.int .i64 (dC os k), .int .i64 (dP os k)] 32)).drew) rfl _ _ _ rfl dish_EId w3.heap.size u k (dishes ((os.map swD).take k)) rfl hUx (some ⟨wr.heap.size, 0, none⟩) 1 1 [.int .i64 (dC os k), .int .i64 (dP os k)] rfl rfl (rv_likeE (w := wr.alloc (.cells #[.int .i64 (dC os k), .int .i64 (dP os k)] 32)) (rv_new wr _ _) rfl) (one2 _ _) ?_ ?_ hWx.size ?_; all_goals (first | (intro v5 w5 hO5 hg5; have hV5 : w5.ownsRow w3.heap.size 3 1 v k (ints (ys.reverse.take k)) := hVx.kept hg5 (own_apart hUx hVx dish_int); have hW5 : Below w3.heap.size w3 w5 := below_app hWx hUx hg5; clear hUx hVx hWx hg5) | ((try simp only [maxLen]) <;> omega))) | (with_reducible refine app_only ?_; have hUx : (wr.drew.alloc (.cells #[.int .i64 (dC os k), .int .i64 (dP os k)] 32)).ownsRow w3.heap.size 32 2 u k (dishes ((os.map swD).take k)) := own_likeD (w := wr.alloc (.cells #[.int .i64 (dC os k), .int .i64 (dP os k)] 32)) (hU2.alloc _) rfl; have hVx : (wr.drew.alloc (.cells #[.int .i64 (dC os k), .int .i64 (dP os k)] 32)).ownsRow w3.heap.size 3 1 v k (ints (ys.reverse.take k)) := own_likeD (w := wr.alloc (.cells #[.int .i64 (dC os k), .int .i64 (dP os k)] 32)) (hV2.alloc _) rfl; have hWx : Below w3.heap.size w3 (wr.drew.alloc (.cells #[.int .i64 (dC os k), .int .i64 (dP os k)] 32)) := below_al hW.drew _; refine step_app (wr.drew.alloc (.cells #[.int .i64 (dC os k), .int .i64 (dP os k)] 32)) rfl _ _ _ rfl dish_EId w3.heap.size u k (dishes ((os.map swD).take k)) rfl hUx (some ⟨wr.heap.size, 0, none⟩) 1 1 [.int .i64 (dC os k), .int .i64 (dP os k)] rfl rfl (rv_likeE (w := wr.alloc (.cells #[.int .i64 (dC os k), .int .i64 (dP os k)] 32)) (rv_new wr _ _) rfl) (one2 _ _) ?_ ?_ hWx.size ?_; all_goals (first | (intro v5 w5 hO5 hg5; have hV5 : w5.ownsRow w3.heap.size 3 1 v k (ints (ys.reverse.take k)) := hVx.kept hg5 (own_apart hUx hVx dish_int); have hW5 : Below w3.heap.size w3 w5 := below_app hWx hUx hg5; clear hUx hVx hWx hg5) | ((try simp only [maxLen]) <;> omega))))
          all_goals
            have hbl3 : b' < w3.heap.size := by
              have := hr2 (by rw [ints_length]; omega)
              obtain ⟨b9, off9, e9, hb9, -⟩ := this
              injection e9 with e9
              injection e9 with e9 _ _
              omega
            have e15 : w5.cell? ⟨b', off' + j, none⟩ = some (.int .i64 (at0 ys j)) := (hW5.cell (p := ⟨b', off' + j, none⟩) hbl3).trans ((hW.cell (p := ⟨b', off' + j, none⟩) hbl3).symm.trans e1)
            go_wp2_with (at_builtin; (refine wpList_app _ rfl _ _ 23 rfl int_EId w3.heap.size v k _ rfl (hV5.alloc _) (some ⟨_, 0, none⟩) 1 1 [.int .i64 (at0 ys j)] rfl rfl (rv_new _ _ _) (one1 _) (le_max (by omega)) (by omega) (below_al hW5 _).size ?_); (intro v6 w6 hO6 hg6 _))
            have hU6 : w6.ownsRow w3.heap.size 32 2 v5 (k + 1) (dishes ((os.map swD).take k) ++ [.int .i64 (dC os k), .int .i64 (dP os k)]) := (hO5.alloc _).kept hg6 (own_apart hV5 hO5 (Ne.symm dish_int))
            go_roundw
            case rel => exact ⟨k + 1, _, _, by omega, rfl, rfl, by go_num, by rw [HST.out]; exact od_pushD (by rw [hlu]; exact hU6), by rw [HRT.out]; exact oi_pushD (by rw [hlv]; exact hO6), hW5.trans (below_app' hW5.size (hV5.alloc _) hg6)⟩
            case measure => (simp [intOf]) <;> omega
        · obtain rfl : k = os.length := by omega
          rw [List.take_of_length_le (by simp)] at hU
          rw [List.take_of_length_le (by simp; omega)] at hV
          have hr1' := RV.step hr1 hW
          replace bel := below_step bel hW
          obtain ⟨A5, c5, rfl, hr5, -⟩ := own_form hU
          obtain ⟨A6, c6, rfl, hr6, -⟩ := own_form hV
          have HL5 := Lib.hid (show (os.map swD).length = os.length from List.length_map _)
          have HL6 := Lib.hid (show ys.reverse.length = ys.length from List.length_reverse)
          clear hr1 hr2 hU hV
          rw [HL5.out, HL6.out]
          go_wp2_with fail
          refine (impl_flowLeast A1 c1 os _ hr1' (by omega)).mono ?_
          rintro e w7 ⟨rfl, b7⟩
          have hr5 := RV.step hr5 b7
          have hr6 := RV.step hr6 b7
          replace bel := below_step bel b7
          rw [HBEST.out]
          have hg2 : decide ((0 : Int) ≤ best) = true := decide_eq_true i1
          have hg3 : decide (best ≤ x) = true := decide_eq_true i2
          go_wp2_with fail
          have hx := impl_flowEnd A5 A6 c5 c6 (os.map swD) ys.reverse _ hr5 hr6 (by rw [HL5.out]; omega) (by rw [HL6.out]; omega)
          rw [HL5.out, HL6.out, I3.out] at hx
          refine hx.mono ?_
          rintro e w8 ⟨rfl, b8⟩
          go_wp2
          go_ret
          exact ⟨rfl, below_step bel b8⟩
  · go_enter Tryd.func10, Tryd.ntmps10
    go_wp2
    go_ret
    exact ⟨rfl, Below.refl _ _⟩
end Go.Proofs.YtnehedcelfpegaaDoor
