/- FnFlowEnds: the law's walk. -/
import Derived.Test.YtnehedcelfpegaaDoorSame
import Derived.Test.YtnehedcelfpegaaDoorFlow2
import Derived.Test.YtnehedcelfpegaaDoorFlowP
import Derived.Deep.RegionHeld3
import Derived.Lib.MinMax
set_option linter.unusedVariables false
set_option linter.unusedSimpArgs false
namespace Go.Proofs.YtnehedcelfpegaaDoor
open Go.ChangeShapes Go.WideShapes Go.ChangeAt Go.RowKit

theorem fL_at {ds : List Dsh} {order : List Int} (h : orderB order ds.length = true) : ∀ n k, k < n → n ≤ order.length → at0 (fL ds order n) (at0 order k).toNat = fC ds order (k + 1)
  | 0, k, hk, _ => by omega
  | n + 1, k, hk, hn => by
    have hin := ord_at h n (by omega)
    rw [fL]
    by_cases e : k = n
    · subst e
      rw [at0_set_eq _ _ _ (by rw [fL_length]; omega)]
    · have hkin := ord_at h k (by omega)
      have hne : at0 order n ≠ at0 order k := by
        have hnd := (orderB_iff.1 h).2.1
        have := List.pairwise_iff_getElem.1 hnd k n (by omega) (by omega) (by omega)
        rw [at0_eq (by omega), at0_eq (by omega)] at this
        exact fun e => this e.symm
      rw [at0_set_ne _ _ _ _ (by omega)]
      exact fL_at h n k (by omega) (by omega)
theorem ends_cases (ds : List Dsh) (order : List Int) : endsB ds order = [] ∨ (dishB ds = true ∧ orderB order ds.length = true ∧ endsB ds order = fL ds order ds.length) := by
  cases h : dishB ds
  · exact .inl (endsB_dish order h)
  · cases ho : orderB order ds.length
    · exact .inl (endsB_order ho)
    · exact .inr ⟨rfl, rfl, endsB_ok h ho⟩
set_option maxRecDepth 20000 in
set_option maxHeartbeats 8000000 in
theorem walk_fnFlowEnds (w : World) (A : Option Addr) (c : Nat) (xs : List Int) (h : RV w w.heap.size A (bts xs)) (hc : xs.length ≤ c) (hm : c ≤ maxLen) (hb : ∀ x ∈ xs, 0 ≤ x ∧ x ≤ 255) :
    Calls Tryd.prog 6 #[.slice A xs.length c] w fun e w' => e = .returned (.bool true) ∧ Below w.heap.size w w' := by
  unfold maxLen at hm
  by_cases hl : xs.length ≤ 1048576
  · have HD := Lib.hid (drawFlowEnds_any A c xs w h hc hl hb)
    clear hb h
    have hd8 : decide ((1048576 : Int) < (xs.length : Int)) = false := decide_eq_false (by omega)
    go_enter Tryd.func6, Tryd.ntmps6
    go_wp2_with fail
    refine HD.out.mono ?_
    rintro e w1 ⟨v, v2, os, ys, rfl, o, o2, hol, bel⟩
    obtain ⟨A1, c1, rfl, hr1, -⟩ := own_form o
    obtain ⟨A2, c2, rfl, hr2, hc2, -⟩ := own_form o2
    clear o o2 HD
    have hel := endsB_len os ys (by omega)
    go_wp2_with fail
    refine (impl_flowEnds A1 A2 c1 c2 os ys _ hr1 hr2 (by omega) (by omega)).mono ?_
    rintro e w2 ⟨v, rfl, o, b2⟩
    have hr1 := RV.step hr1 b2
    have hr2 := RV.step hr2 b2
    replace bel := below_step bel b2
    obtain ⟨A3, c3, rfl, hr3, -⟩ := own_form o
    clear o
    go_wp2_with fail
    refine (spec_flowEnds A1 A2 c1 c2 os ys _ hr1 hr2 (by omega) (by omega) hc2).mono ?_
    rintro e w3 ⟨v, rfl, o, b3⟩
    have hr1 := RV.step hr1 b3
    have hr2 := RV.step hr2 b3
    have hr3 := RV.step hr3 b3
    replace bel := below_step bel b3
    obtain ⟨A4, c4, rfl, hr4, -⟩ := own_form o
    clear o
    go_wp2_with fail
    refine (sameInts_e A3 A4 c3 c4 _ _ hr3 hr4 hel).mono ?_
    rintro e w4 ⟨rfl, b4⟩
    have hr1 := RV.step hr1 b4
    have hr2 := RV.step hr2 b4
    have hr3 := RV.step hr3 b4
    clear hr4
    replace bel := below_step bel b4
    rcases (show endsB os ys = [] ∨ 0 < (endsB os ys).length by cases endsB os ys <;> simp) with hx | hxp
    · rw [hx]
      clear hx
      go_wp2_with fail
      refine (alive_any _).mono ?_
      rintro e w99 ⟨rfl, b99⟩
      go_wp2
      go_ret
      exact ⟨rfl, below_step bel b99⟩
    · rcases ends_cases os ys with hx | ⟨hd, ho, he⟩
      · rw [hx] at hxp; simp at hxp
      · have HAT := Lib.hid (fun k hk => fL_at (ds := os) ho os.length k hk (by rw [ord_len ho]; exact Nat.le_refl _))
        have HIN := Lib.hid (fun k hk => ord_at ho k hk)
        have hyl := ord_len ho
        have h6 := dish_len hd
        have HBD := Lib.hid (fun k => fP_bound hd ys k)
        have HDB := Lib.hid (fun k => dP_bound hd k)
        have hfl : (fL os ys os.length).length = os.length := fL_length _ _ _
        rw [he] at hr3 hel hxp ⊢
        rw [hfl] at hxp
        clear he hd ho
        have hz0 : ((os.length : Int) == 0) = false := by rw [beq_eq_false_iff_ne]; omega
        rw [hfl]
        generalize fL os ys os.length = es at *
        go_wp2
        go_loopw [6, 7, 8] (fun p q i wr => ∃ k : Nat, k ≤ ys.length ∧ p = .int .i64 (fP os ys k) ∧ q = .int .i64 (fC os ys k) ∧ i = .int .i64 k ∧ Below w4.heap.size w4 wr) (fun _ _ i _ => ys.length - (intOf i).toNat)
        case atStart => exact ⟨0, Nat.zero_le _, rfl, rfl, rfl, Below.refl _ _⟩
        case round =>
          obtain ⟨k, hk, rfl, rfl, rfl, hW⟩ := hrel
          by_cases hlt : k < ys.length
          · obtain ⟨b, off, rfl, hbl, hcc⟩ := IS.at0_ (show IS wr wr.heap.size A2 ys from RV.step hr2 hW) (by omega)
            obtain ⟨b', off', rfl, hbl', hcc'⟩ := SD.atD (show SD wr wr.heap.size A1 os from RV.step hr1 hW) (by omega)
            obtain ⟨b'', off'', rfl, hbl'', hcc''⟩ := IS.at0_ (show IS wr wr.heap.size A3 es from RV.step hr3 hW) (by omega)
            have e1 := hcc k hlt
            have hin := HIN.out k hlt
            have hat := HAT.out k (by omega)
            obtain ⟨a, hai⟩ : ∃ a : Nat, at0 ys k = a := ⟨(at0 ys k).toNat, by omega⟩
            rw [hai] at e1 hin hat
            simp only [Int.toNat_natCast] at hat
            obtain ⟨d1, d2⟩ := hcc' a (by omega)
            have e3 := hcc'' a (by omega)
            rw [hat] at e3
            have hb1 := HBD.out k
            have hb2 := HBD.out (k + 1)
            have hb3 := HDB.out a
            have hP : fP os ys (k + 1) = fP os ys k + dP os a := by rw [fP, hai]; rfl
            have hC : fC os ys (k + 1) = max (fC os ys k) (fP os ys (k + 1)) + dC os a := by rw [fC, hai]; rfl
            have HP := Lib.hid hP
            have haz : (a : Int) < (os.length : Int) := by omega
            have haz2 : (a : Int) < (es.length : Int) := by omega
            rw [hP] at hC hb2
            clear hcc hcc' hcc'' hai hat hP
            have hs := hW.size
            generalize fP os ys k = p at *
            generalize fC os ys k = q at *
            generalize hC1 : fC os ys (k + 1) = r at *
            have HC1 := Lib.hid hC1
            generalize dP os a = y at *
            generalize dC os a = z at *
            have hg1 : decide (r < p + y + z) = false := decide_eq_false (by omega)
            have hg2 : decide (r < q + z) = false := decide_eq_false (by omega)
            clear hC hC1
            go_wp2_with fail
            go_quiet (fail)
            go_wp2
            go_roundw
            case rel => exact ⟨k + 1, by omega, by rw [HP.out], by rw [HC1.out], by go_num, below_drewN (below_al hW _) _⟩
            case measure => (simp [intOf]) <;> omega
          · obtain rfl : k = ys.length := by omega
            go_wp2
            go_ret
            exact ⟨rfl, below_step bel hW⟩
  · go_enter Tryd.func6, Tryd.ntmps6
    go_wp2
    go_ret
    exact ⟨rfl, Below.refl _ _⟩
end Go.Proofs.YtnehedcelfpegaaDoor
