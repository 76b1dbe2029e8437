/- Insertion sort of indices by a closure that makes memory: the walk over slices.insertionSortCmpFunc, stableCmpFunc, SortStableFunc. -/
import Derived.Test.YtnehedcelfpegaaDoorSort
import Derived.StillTailTactics
set_option linter.unusedVariables false
set_option linter.unusedSimpArgs false
namespace Go.Proofs.YtnehedcelfpegaaDoor
open Go.ChangeShapes Go.WideShapes Go.ChangeAt Go.RowKit

set_option maxRecDepth 20000 in
set_option maxHeartbeats 8000000 in
theorem insSortF_one (cbv : Value) (cf : Int → Int → Int) (g n cap base : Nat) (l : List Int) (w : World)
    (hO : OwnG w base g n cap l) (hgb : base ≤ g) (hl : l.length = n) (hn : n ≤ 1000) (hr : Rng l)
    (hcmp : ∀ W, Below base w W → ∀ i j : Nat, i < n → j < n → Calls Tryd.prog 56 #[.int .i64 i, .int .i64 j, cbv] W fun e w' => e = .returned (.int .i64 (cf i j)) ∧ Below W.heap.size W w') :
    Calls Tryd.prog 69 #[.slice (some ⟨g, 0, none⟩) n cap, .int .i64 0, .int .i64 n, .func (.func 56) #[] #[cbv]] w fun e w' =>
      e = .returned (.tuple #[]) ∧ OwnG w' base g n cap (sortTo cf l (n - 1)) ∧ Below base w w' := by
  have hB0 : base ≤ w.heap.size := by
    have := World.ownsRow.lt hO g rfl
    omega
  have HCMP := Lib.hid hcmp
  have HR := Lib.hid hr
  have HOO := Lib.hid hO
  clear hcmp hr hO
  go_enter Tryd.func69, Tryd.ntmps69
  go_wp2
  go_loopw [8] (fun vi wr => ∃ k : Nat, vi = .int .i64 ((k : Int) + 1) ∧ (k + 1 ≤ n ∨ k = 0) ∧ OwnG wr base g n cap (sortTo cf l k) ∧ (sortTo cf l k).length = n ∧ Hid (Rng (sortTo cf l k)) ∧ Below base w wr) (fun vi _ => n + 1 - (intOf vi).toNat)
  case atStart => exact ⟨0, by go_num, .inr rfl, HOO.out, hl, HR.out, Below.refl _ _⟩
  case round =>
    obtain ⟨k, rfl, hk, hO, hlk, hr, hW⟩ := hrel
    by_cases hlt : k + 1 < n
    · have hltz : (k : Int) + 1 < (n : Int) := by omega
      go_wp2
      go_loopw [9] (fun vj wr2 => ∃ (j : Nat) (lj : List Int), vj = .int .i64 (j : Int) ∧ j ≤ k + 1 ∧ OwnG wr2 base g n cap lj ∧ lj.length = n ∧ Hid (Rng lj) ∧ Below base w wr2 ∧ Hid (innS cf j lj = sortTo cf l (k + 1))) (fun vj _ => (intOf vj).toNat)
      case atStart => exact ⟨k + 1, _, by go_num, Nat.le_refl _, hO, hlk, hr, hW, rfl⟩
      case round =>
        clear hO hlk hr hW
        obtain ⟨j, lj, rfl, hj, hO, hlk, hr, hW, hI⟩ := hrel
        cases j with
        | zero =>
          have hd : decide (((0 : Nat) : Int) > (0 : Int)) = false := by decide
          go_wp2_with fail
          go_quiet (fail)
          go_wp2
          go_roundw
          case rel =>
            have e : lj = sortTo cf l (k + 1) := hI.out
            subst e
            exact ⟨k + 1, by go_num, by omega, own_like2 hO rfl, hlk, hr, below_drewN hW _⟩
          case measure => simp [intOf]; omega
        | succ j =>
          have HO := Lib.hid hO
          obtain ⟨r1, r2⟩ := row_at0 hO j (by omega)
          obtain ⟨r3, r4⟩ := row_at0 hO (j + 1) (by omega)
          obtain ⟨x, hx, ex⟩ := hr.out (j + 1) (by omega)
          obtain ⟨y, hy, ey⟩ := hr.out j (by omega)
          have EX := Lib.hid ex
          have EY := Lib.hid ey
          rw [ex] at r3
          rw [ey] at r1
          have hwp : IntKind.i64.wrap (j : Int) = (j : Int) := by rw [IntKind.wrap_i64]; omega
          have hxn : x < n := by omega
          have hyn : y < n := by omega
          have hjz : (j : Int) + 1 < (n : Int) := by omega
          have hjz1 : (j : Int) < (n : Int) := by omega
          have hj0 : (0 : Int) < (j : Int) + 1 := by omega
          have hj00 : (0 : Int) ≤ (j : Int) + 1 := by omega
          have e0 : ((j : Int) + 1).toNat = j + 1 := by omega
          clear ex ey hO
          by_cases hlv : cf x y < 0
          · go_wp2_with fail
            go_still_tail 14, (by kernel_rfl)
            go_wp2_with fail
            refine (HCMP.out wr.drew hW.drew x y hxn hyn).mono ?_
            rintro e w1 ⟨rfl, b1⟩
            have hO1 : OwnG w1 base g n cap lj := own_below (w := wr.drew) (own_like2 HO.out rfl) b1
            have hW1 : Below base w w1 := hW.drew.trans (b1.mono (by have := hW.drew.size; omega))
            clear r1 r2 r3 r4
            obtain ⟨r1, r2⟩ := row_at0 hO1 j (by omega)
            obtain ⟨r3, r4⟩ := row_at0 hO1 (j + 1) (by omega)
            rw [EX.out] at r3
            rw [EY.out] at r1
            have HI2 := Lib.hid (show innS cf j (swp lj j) = sortTo cf l (k + 1) by rw [← hI.out, innS, EX.out, EY.out, if_pos hlv])
            have HRS := Lib.hid (hr.out.swp j (by omega))
            have HLS := Lib.hid (show (swp lj j).length = n by rw [swp_length, hlk])
            have HO2 : Hid (OwnG ((w1.setCell ⟨g, j + 1, none⟩ (.int .i64 y)).setCell ⟨g, j, none⟩ (.int .i64 x)) base g n cap (swp lj j)) := by
              have := row_set (row_set hO1 (j + 1) (at0 lj j)) j (at0 lj (j + 1))
              rw [EX.out, EY.out] at this
              rw [Hid, OwnG, swp, EX.out, EY.out]
              exact this
            clear hO1
            go_wp2_with fail
            go_region
            all_goals go_wp2
            go_roundw
            case rel => exact ⟨j, _, rfl, by omega, own_like2 HO2.out rfl, HLS.out, HRS, below_like (X := (w1.setCell ⟨g, j + 1, none⟩ (.int .i64 y)).setCell ⟨g, j, none⟩ (.int .i64 x)) ((hW1.setCell hgb _).setCell hgb _) rfl, HI2⟩
            case measure => simp [intOf]
          · have HI2 := Lib.hid (show lj = sortTo cf l (k + 1) by rw [← hI.out, innS, EX.out, EY.out, if_neg hlv])
            have hlv' : (0 : Int) ≤ cf x y := by omega
            go_wp2_with fail
            go_still_tail 14, (by kernel_rfl)
            go_wp2_with fail
            refine (HCMP.out wr.drew hW.drew x y hxn hyn).mono ?_
            rintro e w1 ⟨rfl, b1⟩
            have HO1 := Lib.hid (show OwnG w1 base g n cap lj from own_below (w := wr.drew) (own_like2 HO.out rfl) b1)
            have hW1 : Below base w w1 := hW.drew.trans (b1.mono (by have := hW.drew.size; omega))
            go_wp2
            go_roundw
            case rel =>
              have e := HI2.out
              subst e
              exact ⟨k + 1, by go_num, by omega, HO1.out, hlk, hr, hW1⟩
            case measure => simp [intOf]; omega
    · have hltz : (n : Int) ≤ (k : Int) + 1 := by omega
      go_wp2
      go_end0
      have e : k = n - 1 := by omega
      subst e
      exact ⟨rfl, hO, hW⟩

set_option maxHeartbeats 4000000 in
theorem stableF_one (cbv : Value) (cf : Int → Int → Int) (g n cap base : Nat) (l : List Int) (w : World)
    (hO : OwnG w base g n cap l) (hgb : base ≤ g) (hl : l.length = n) (hn : n ≤ 19) (hr : Rng l)
    (hcmp : ∀ W, Below base w W → ∀ i j : Nat, i < n → j < n → Calls Tryd.prog 56 #[.int .i64 i, .int .i64 j, cbv] W fun e w' => e = .returned (.int .i64 (cf i j)) ∧ Below W.heap.size W w') :
    Calls Tryd.prog 65 #[.slice (some ⟨g, 0, none⟩) n cap, .int .i64 n, .func (.func 56) #[] #[cbv]] w fun e w' =>
      e = .returned (.tuple #[]) ∧ OwnG w' base g n cap (sortTo cf l (n - 1)) ∧ Below base w w' := by
  have HI := Lib.hid (insSortF_one cbv cf g n cap base l w hO hgb hl (by omega) hr hcmp)
  clear hcmp hr hO
  go_enter Tryd.func65, Tryd.ntmps65
  go_wp2
  go_loopw [7, 8] (fun a b wr => a = .int .i64 0 ∧ b = .int .i64 20 ∧ wr = w) (fun _ _ _ => 0)
  case atStart => exact ⟨rfl, rfl, rfl⟩
  case round =>
    obtain ⟨rfl, rfl, rfl⟩ := hrel
    go_wp2_with (go_at_call 69; refine HI.out.mono ?_; rintro e w1 ⟨rfl, h1, h2⟩)
    go_loopw [6] (fun a wr => a = .int .i64 20 ∧ wr = w1) (fun _ _ => 0)
    case atStart => exact ⟨rfl, rfl⟩
    case round =>
      obtain ⟨rfl, rfl⟩ := hrel
      go_wp2
      go_end0
      exact ⟨rfl, h1, h2⟩
theorem sortStableF_one (cbv : Value) (cf : Int → Int → Int) (g n cap base : Nat) (l : List Int) (w : World)
    (hO : OwnG w base g n cap l) (hgb : base ≤ g) (hl : l.length = n) (hn : n ≤ 19) (hr : Rng l)
    (hcmp : ∀ W, Below base w W → ∀ i j : Nat, i < n → j < n → Calls Tryd.prog 56 #[.int .i64 i, .int .i64 j, cbv] W fun e w' => e = .returned (.int .i64 (cf i j)) ∧ Below W.heap.size W w') :
    Calls Tryd.prog 53 #[.slice (some ⟨g, 0, none⟩) n cap, .func (.func 56) #[] #[cbv]] w fun e w' =>
      e = .returned (.tuple #[]) ∧ OwnG w' base g n cap (sortTo cf l (n - 1)) ∧ Below base w w' := by
  have HI := Lib.hid (stableF_one cbv cf g n cap base l w hO hgb hl hn hr hcmp)
  clear hcmp hr hO
  go_enter Tryd.func53, Tryd.ntmps53
  go_wp2_with (go_at_call 65; refine HI.out.mono ?_; rintro e w1 ⟨rfl, h1, h2⟩)
  go_end0
  exact ⟨rfl, h1, h2⟩
end Go.Proofs.YtnehedcelfpegaaDoor
