/- Insertion sort of indices by a closure that reads: the walk over slices.insertionSortCmpFunc, stableCmpFunc, SortStableFunc; and the plain law. -/
import Derived.Test.YtgndokhehooplaaAt
import Derived.Test.YtgndokhehooplaaInts
import Derived.BigGuardPart
import Derived.Lib.Hide
import Derived.WalkKit
set_option linter.unusedVariables false
set_option linter.unusedSimpArgs false
namespace Go.Proofs.Ytgndokhehooplaa
open Go.ChangeShapes Go.WideShapes Go.ChangeAt Go.RowKit

def swp (l : List Int) (j : Nat) : List Int := (l.set (j + 1) (at0 l j)).set j (at0 l (j + 1))
def innS (cf : Int → Int → Int) : Nat → List Int → List Int
  | 0, l => l
  | j + 1, l => if cf (at0 l (j + 1)) (at0 l j) < 0 then innS cf j (swp l j) else l
def sortTo (cf : Int → Int → Int) (l : List Int) : Nat → List Int
  | 0 => l
  | k + 1 => innS cf (k + 1) (sortTo cf l k)
def Rng (l : List Int) : Prop := ∀ k, k < l.length → ∃ i : Nat, i < l.length ∧ at0 l k = i
theorem swp_length (l : List Int) (j : Nat) : (swp l j).length = l.length := by simp [swp]
theorem Rng.swp {l : List Int} (h : Rng l) (j : Nat) (hj : j + 1 < l.length) : Rng (swp l j) := by
  intro k hk
  rw [swp_length] at hk
  rw [swp_length]
  by_cases e : k = j
  · subst e
    rw [Go.Proofs.Ytgndokhehooplaa.swp, at0_set_eq _ _ _ (by simp; omega)]
    exact h _ hj
  · rw [Go.Proofs.Ytgndokhehooplaa.swp, at0_set_ne _ _ _ _ (Ne.symm e)]
    by_cases e2 : k = j + 1
    · subst e2
      rw [at0_set_eq _ _ _ hj]
      exact h _ (by omega)
    · rw [at0_set_ne _ _ _ _ (Ne.symm e2)]
      exact h _ hk
theorem own_like2 {w w' : World} {base n size : Nat} {e : TypeId} {v : Value} {cs : List Value} (h : w.ownsRow base e size v n cs) (hh : w'.heap = w.heap) : w'.ownsRow base e size v n cs := by
  refine ⟨h.1, ?_⟩
  rcases h.2 with h0 | ⟨g, cap, cur, hv, hb, hg, r⟩
  · exact .inl h0
  · exact .inr ⟨g, cap, cur, hv, hb, by rw [hh]; exact hg, r⟩
abbrev OwnG (w : World) (base g n cap : Nat) (l : List Int) : Prop := w.ownsRow base 3 1 (.slice (some ⟨g, 0, none⟩) n cap) n (ints l)

set_option maxHeartbeats 8000000 in
theorem insSort_one (cb1 cb2 cb3 : Value) (cf : Int → Int → Int) (g n cap base : Nat) (l : List Int) (w : World)
    (hO : OwnG w base g n cap l) (hgb : base ≤ g) (hl : l.length = n) (hn : n ≤ 1000) (hr : Rng l)
    (hcmp : ∀ W, Below base w W → ∀ i j : Nat, i < n → j < n → Calls Try.prog 46 #[.int .i64 i, .int .i64 j, cb1, cb2, cb3] W fun e w' => e = .returned (.int .i64 (cf i j)) ∧ ∃ q, w' = W.drewN q) :
    Calls Try.prog 73 #[.slice (some ⟨g, 0, none⟩) n cap, .int .i64 0, .int .i64 n, .func (.func 46) #[] #[cb1, cb2, cb3]] w fun e w' =>
      e = .returned (.tuple #[]) ∧ OwnG w' base g n cap (sortTo cf l (n - 1)) ∧ Below base w w' := by
  have hB0 : base ≤ w.heap.size := by
    have := World.ownsRow.lt hO g rfl
    omega
  have HCMP := Lib.hid hcmp
  have HR := Lib.hid hr
  have HOO := Lib.hid hO
  clear hcmp hr hO
  go_enter Try.func73, Try.ntmps73
  go_wp2
  go_loopw [8] (fun vi wr => ∃ k : Nat, vi = .int .i64 ((k : Int) + 1) ∧ (k + 1 ≤ n ∨ k = 0) ∧ OwnG wr base g n cap (sortTo cf l k) ∧ (sortTo cf l k).length = n ∧ Hid (Rng (sortTo cf l k)) ∧ Below base w wr) (fun vi _ => n + 1 - (intOf vi).toNat)
  case atStart => exact ⟨0, by go_num, .inr rfl, HOO.out, hl, HR.out, Below.refl _ _⟩
  case round =>
    obtain ⟨k, rfl, hk, hO, hlk, hr, hW⟩ := hrel
    by_cases hlt : k + 1 < n
    · have hltz : (k : Int) + 1 < (n : Int) := by omega
      go_wp2
      go_loopw [9] (fun vj wr2 => ∃ (j : Nat) (lj : List Int), vj = .int .i64 (j : Int) ∧ j ≤ k + 1 ∧ OwnG wr2 base g n cap lj ∧ lj.length = n ∧ Hid (Rng lj) ∧ Below base w wr2 ∧ Hid (innS cf j lj = sortTo cf l (k + 1))) (fun vj _ => (intOf vj).toNat)
      case atStart => exact ⟨k + 1, _, by go_num, Nat.le_refl _, hO, hlk, hr, hW, rfl⟩
      case round =>
        clear hO hlk hr hW
        obtain ⟨j, lj, rfl, hj, hO, hlk, hr, hW, hI⟩ := hrel
        cases j with
        | zero =>
          have hd : decide (((0 : Nat) : Int) > (0 : Int)) = false := by decide
          go_wp2_with fail
          go_quiet (fail)
          go_wp2
          go_roundw
          case rel =>
            have e : lj = sortTo cf l (k + 1) := hI.out
            subst e
            exact ⟨k + 1, by go_num, by omega, own_like2 hO rfl, hlk, hr, below_drewN hW _⟩
          case measure => simp [intOf]; omega
        | succ j =>
          have HO := Lib.hid hO
          obtain ⟨r1, r2⟩ := row_at0 hO j (by omega)
          obtain ⟨r3, r4⟩ := row_at0 hO (j + 1) (by omega)
          obtain ⟨x, hx, ex⟩ := hr.out (j + 1) (by omega)
          obtain ⟨y, hy, ey⟩ := hr.out j (by omega)
          have EX := Lib.hid ex
          have EY := Lib.hid ey
          rw [ex] at r3
          rw [ey] at r1
          have hwp : IntKind.i64.wrap (j : Int) = (j : Int) := by rw [IntKind.wrap_i64]; omega
          have hxn : x < n := by omega
          have hyn : y < n := by omega
          have hc := fun m => HCMP.out (wr.drewN m) (below_drewN hW m) x y hxn hyn
          have hjz : (j : Int) + 1 < (n : Int) := by omega
          have hjz1 : (j : Int) < (n : Int) := by omega
          have hj0 : (0 : Int) < (j : Int) + 1 := by omega
          have e0 : ((j : Int) + 1).toNat = j + 1 := by omega
          clear ex ey hO
          by_cases hlv : cf x y < 0
          · go_wp2_with fail
            go_quiet ((first | (go_at_call 46; refine Calls.quiet_of (hc _))))
            have HI2 := Lib.hid (show innS cf j (swp lj j) = sortTo cf l (k + 1) by rw [← hI.out, innS, EX.out, EY.out, if_pos hlv])
            have HRS := Lib.hid (hr.out.swp j (by omega))
            have HLS := Lib.hid (show (swp lj j).length = n by rw [swp_length, hlk])
            have HO2 : Hid (OwnG ((wr.setCell ⟨g, j + 1, none⟩ (.int .i64 y)).setCell ⟨g, j, none⟩ (.int .i64 x)) base g n cap (swp lj j)) := by
              have := row_set (row_set HO.out (j + 1) (at0 lj j)) j (at0 lj (j + 1))
              rw [EX.out, EY.out] at this
              rw [Hid, OwnG, swp, EX.out, EY.out]
              exact this
            clear hc
            go_wp2_with fail
            go_region
            all_goals go_wp2
            go_roundw
            case rel => exact ⟨j, _, rfl, by omega, own_like2 HO2.out rfl, HLS.out, HRS, ((below_drewN hW _).setCell hgb _).setCell hgb _, HI2⟩
            case measure => simp [intOf]
          · have HI2 := Lib.hid (show lj = sortTo cf l (k + 1) by rw [← hI.out, innS, EX.out, EY.out, if_neg hlv])
            have hlv' : (0 : Int) ≤ cf x y := by omega
            go_wp2_with fail
            go_quiet ((first | (go_at_call 46; refine Calls.quiet_of (hc _))))
            go_wp2
            go_roundw
            case rel =>
              have e := HI2.out
              subst e
              exact ⟨k + 1, by go_num, by omega, own_like2 HO.out rfl, hlk, hr, below_drewN hW _⟩
            case measure => simp [intOf]; omega
    · have hltz : (n : Int) ≤ (k : Int) + 1 := by omega
      go_wp2
      go_end0
      have e : k = n - 1 := by omega
      subst e
      exact ⟨rfl, hO, hW⟩

set_option maxHeartbeats 4000000 in
theorem stable_one (cb1 cb2 cb3 : Value) (cf : Int → Int → Int) (g n cap base : Nat) (l : List Int) (w : World)
    (hO : OwnG w base g n cap l) (hgb : base ≤ g) (hl : l.length = n) (hn : n ≤ 19) (hr : Rng l)
    (hcmp : ∀ W, Below base w W → ∀ i j : Nat, i < n → j < n → Calls Try.prog 46 #[.int .i64 i, .int .i64 j, cb1, cb2, cb3] W fun e w' => e = .returned (.int .i64 (cf i j)) ∧ ∃ q, w' = W.drewN q) :
    Calls Try.prog 69 #[.slice (some ⟨g, 0, none⟩) n cap, .int .i64 n, .func (.func 46) #[] #[cb1, cb2, cb3]] w fun e w' =>
      e = .returned (.tuple #[]) ∧ OwnG w' base g n cap (sortTo cf l (n - 1)) ∧ Below base w w' := by
  have HI := Lib.hid (insSort_one cb1 cb2 cb3 cf g n cap base l w hO hgb hl (by omega) hr hcmp)
  clear hcmp hr hO
  go_enter Try.func69, Try.ntmps69
  go_wp2
  go_loopw [7, 8] (fun a b wr => a = .int .i64 0 ∧ b = .int .i64 20 ∧ wr = w) (fun _ _ _ => 0)
  case atStart => exact ⟨rfl, rfl, rfl⟩
  case round =>
    obtain ⟨rfl, rfl, rfl⟩ := hrel
    go_wp2_with (go_at_call 73; refine HI.out.mono ?_; rintro e w1 ⟨rfl, h1, h2⟩)
    go_loopw [6] (fun a wr => a = .int .i64 20 ∧ wr = w1) (fun _ _ => 0)
    case atStart => exact ⟨rfl, rfl⟩
    case round =>
      obtain ⟨rfl, rfl⟩ := hrel
      go_wp2
      go_end0
      exact ⟨rfl, h1, h2⟩
theorem sortStable_one (cb1 cb2 cb3 : Value) (cf : Int → Int → Int) (g n cap base : Nat) (l : List Int) (w : World)
    (hO : OwnG w base g n cap l) (hgb : base ≤ g) (hl : l.length = n) (hn : n ≤ 19) (hr : Rng l)
    (hcmp : ∀ W, Below base w W → ∀ i j : Nat, i < n → j < n → Calls Try.prog 46 #[.int .i64 i, .int .i64 j, cb1, cb2, cb3] W fun e w' => e = .returned (.int .i64 (cf i j)) ∧ ∃ q, w' = W.drewN q) :
    Calls Try.prog 45 #[.slice (some ⟨g, 0, none⟩) n cap, .func (.func 46) #[] #[cb1, cb2, cb3]] w fun e w' =>
      e = .returned (.tuple #[]) ∧ OwnG w' base g n cap (sortTo cf l (n - 1)) ∧ Below base w w' := by
  have HI := Lib.hid (stable_one cb1 cb2 cb3 cf g n cap base l w hO hgb hl hn hr hcmp)
  clear hcmp hr hO
  go_enter Try.func45, Try.ntmps45
  go_wp2_with (go_at_call 69; refine HI.out.mono ?_; rintro e w1 ⟨rfl, h1, h2⟩)
  go_end0
  exact ⟨rfl, h1, h2⟩
end Go.Proofs.Ytgndokhehooplaa
