/- FnTogetherBest: the law's walk. -/
import Derived.Test.YtnehedcelfpegaaDoorSame
import Derived.Test.YtnehedcelfpegaaDoorTog3
import Derived.Test.YtnehedcelfpegaaDoorWaitP
import Derived.Deep.RegionHeld3
import Derived.Lib.MinMax
set_option linter.unusedVariables false
set_option linter.unusedSimpArgs false
namespace Go.Proofs.YtnehedcelfpegaaDoor
open Go.ChangeShapes Go.WideShapes Go.ChangeAt Go.RowKit

theorem tog_desc {xs : List Int} (h : spansB xs = true) : ∀ k, k + 1 < (togF xs).length → at0 xs (at0 (togF xs) (k + 1)).toNat ≤ at0 xs (at0 (togF xs) k).toNat := by
  intro k hk
  have hp : (togF xs).Pairwise (togR xs) := by rw [togF_bkt h]; exact bkt_sorted xs 31
  have := List.pairwise_iff_getElem.1 hp k (k + 1) (by omega) hk (by omega)
  rw [at0_eq (by omega), at0_eq hk] at this
  unfold togR at this
  omega
theorem tog_in {xs : List Int} (h : spansB xs = true) : ∀ k, k < (togF xs).length → 0 ≤ at0 (togF xs) k ∧ at0 (togF xs) k < xs.length := fun k hk => ord_at (togF_order h) k hk
set_option maxRecDepth 20000 in
set_option maxHeartbeats 8000000 in
theorem walk_fnTogetherBest (w : World) (A : Option Addr) (c : Nat) (xs : List Int) (h : RV w w.heap.size A (bts xs)) (hc : xs.length ≤ c) (hm : c ≤ maxLen) (hb : ∀ x ∈ xs, 0 ≤ x ∧ x ≤ 255) :
    Calls Tryd.prog 7 #[.slice A xs.length c] w fun e w' => e = .returned (.bool true) ∧ Below w.heap.size w w' := by
  unfold maxLen at hm
  by_cases hl : xs.length ≤ 1048576
  · have HD := Lib.hid (drawTogetherBest_any A c xs w h hc hl hb)
    clear hb h
    have hd8 : decide ((1048576 : Int) < (xs.length : Int)) = false := decide_eq_false (by omega)
    go_enter Tryd.func7, Tryd.ntmps7
    go_wp2_with fail
    refine HD.out.mono ?_
    rintro e w1 ⟨v, os, rfl, o, hol, bel⟩
    obtain ⟨A1, c1, rfl, hr1, -⟩ := own_form o
    clear o HD
    have htl := togF_len os (by omega)
    go_wp2_with fail
    refine (impl_togetherBest A1 c1 os _ hr1 (by omega)).mono ?_
    rintro e w2 ⟨v, rfl, o, b2⟩
    have hr1 := RV.step hr1 b2
    obtain ⟨A2, c2, rfl, hr2, hc2, -⟩ := own_form o
    clear o
    replace bel := below_step bel b2
    go_wp2_with fail
    refine (spec_togetherBest A1 c1 os _ hr1 (by omega)).mono ?_
    rintro e w3 ⟨v, rfl, o, b3⟩
    have hr1 := RV.step hr1 b3
    have hr2 := RV.step hr2 b3
    obtain ⟨A3, c3, rfl, hr3, -⟩ := own_form o
    clear o
    replace bel := below_step bel b3
    go_wp2_with fail
    refine (sameInts_e A2 A3 c2 c3 _ _ hr2 hr3 htl).mono ?_
    rintro e w4 ⟨rfl, b4⟩
    have hr1 := RV.step hr1 b4
    have hr2 := RV.step hr2 b4
    clear hr3
    replace bel := below_step bel b4
    go_wp2_with fail
    refine (spec_spansValid A1 c1 os _ _ hr1 (by omega)).mono ?_
    rintro e w' ⟨rfl, rfl⟩
    cases hs : spansB os
    · rw [togF_no hs]
      clear hs
      go_wp2_with fail
      refine (alive_any _).mono ?_
      rintro e w99 ⟨rfl, b99⟩
      go_wp2
      go_ret
      exact ⟨rfl, below_step bel b99⟩
    · have HD := Lib.hid (tog_desc hs)
      have HI := Lib.hid (tog_in hs)
      have HO := Lib.hid (togF_order hs)
      have hlen : (togF os).length = os.length := ord_len HO.out
      clear hs
      generalize togF os = ys at *
      go_wp2
      go_loopw [5] (fun i wr => ∃ k : Nat, k ≤ ys.length ∧ i = .int .i64 ((k : Int) + 1) ∧ Below w4.heap.size w4 wr) (fun i _ => ys.length + 1 - (intOf i).toNat)
      case atStart => exact ⟨0, Nat.zero_le _, rfl, Below.refl _ _⟩
      case round =>
        obtain ⟨k, hk, rfl, hW⟩ := hrel
        by_cases hlt : k + 1 < ys.length
        · obtain ⟨b, off, rfl, hbl, hcc⟩ := IS.at0_ (show IS wr wr.heap.size A2 ys from RV.step hr2 hW) (by omega)
          obtain ⟨b', off', rfl, hbl', hcc'⟩ := IS.at0_ (show IS wr wr.heap.size A1 os from RV.step hr1 hW) (by omega)
          have e1 := hcc k (by omega)
          have e2 := hcc (k + 1) hlt
          have i1 := HI.out k (by omega)
          have i2 := HI.out (k + 1) hlt
          have hd := HD.out k hlt
          obtain ⟨p, hp⟩ : ∃ p : Nat, at0 ys k = p := ⟨(at0 ys k).toNat, by omega⟩
          obtain ⟨q, hq⟩ : ∃ q : Nat, at0 ys (k + 1) = q := ⟨(at0 ys (k + 1)).toNat, by omega⟩
          rw [hp] at e1 i1 hd
          rw [hq] at e2 i2 hd
          have e3 := hcc' p (by omega)
          have e4 := hcc' q (by omega)
          simp only [Int.toNat_natCast] at hd
          have hgd : decide (at0 os p < at0 os q) = false := decide_eq_false (by omega)
          have hw1 : IntKind.i64.wrap ((k : Int) + 1 - 1) = (k : Int) := by rw [IntKind.wrap_i64]; omega
          have hn1 : ((k : Int) + 1).toNat = k + 1 := by omega
          have hz1 : (k : Int) < (ys.length : Int) := by omega
          have hz2 : (k : Int) + 1 < (ys.length : Int) := by omega
          have hz3 : (0 : Int) ≤ (k : Int) + 1 := by omega
          have hz4 : (p : Int) < (os.length : Int) := by omega
          have hz5 : (q : Int) < (os.length : Int) := by omega
          clear hcc hcc' hp hq hd
          have hs := hW.size
          go_wp2_with fail
          go_quiet (fail)
          go_wp2
          go_roundw
          case rel => exact ⟨k + 1, by omega, by go_num, below_drewN hW _⟩
          case measure => (simp [intOf]) <;> omega
        · have hz2 : decide ((k : Int) + 1 < (ys.length : Int)) = false := decide_eq_false (by omega)
          have hr2' := RV.step hr2 hW
          replace bel := below_step bel hW
          clear hr1 hr2
          go_wp2_with fail
          have hx := impl_orderOk A2 c2 ys os.length _ hr2' (by omega) (by omega)
          rw [HO.out, hlen] at hx
          refine hx.mono ?_
          rintro e w9 ⟨rfl, b9⟩
          go_wp2
          go_ret
          exact ⟨rfl, below_step bel b9⟩
  · go_enter Tryd.func7, Tryd.ntmps7
    go_wp2
    go_ret
    exact ⟨rfl, Below.refl _ _⟩
end Go.Proofs.YtnehedcelfpegaaDoor
