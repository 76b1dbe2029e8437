/- SpansValid: what the program and the reference compute. -/
import Derived.Test.YtnehedcelfpegaaDoorSort
set_option linter.unusedVariables false
set_option linter.unusedSimpArgs false
namespace Go.Proofs.YtnehedcelfpegaaDoor
open Go.ChangeShapes Go.WideShapes Go.ChangeAt Go.RowKit

def spansB (xs : List Int) : Bool := (xs.all fun x => inB x 0 30) && decide (xs.length ≤ 6)
set_option maxHeartbeats 2000000 in
theorem spec_spansValid (A : Option Addr) (c : Nat) (xs : List Int) (w : World) (B : Nat) (h : IS w B A xs) (hl : xs.length ≤ 1048576) :
    Calls Tryd.prog 14 #[.slice A xs.length c] w fun e w' => e = .returned (.bool (spansB xs)) ∧ w = w' := by
  go_enter Tryd.func14, Tryd.ntmps14
  go_wp2
  go_loop [3] (fun i => ∃ k : Nat, k ≤ xs.length ∧ i = .int .i64 k ∧ ((xs.take k).all fun x => inB x 0 30) = true) (fun i => xs.length - (intOf i).toNat)
  case atStart => exact ⟨0, Nat.zero_le _, rfl, by simp⟩
  case round =>
    obtain ⟨k, hk, rfl, ha⟩ := hrel
    have HA := Lib.hid ha
    clear ha
    by_cases hlt : k < xs.length
    · obtain ⟨b, off, rfl, hbl, hc⟩ := h.at_ (by omega)
      have hck := hc k hlt
      cases h1 : inB xs[k] 0 30
      · go_wp2_with (go_at_call 45; refine (l1In_any _ _ _ _).mono ?_; rintro e w' ⟨rfl, rfl⟩)
        go_ret
        exact ⟨ret_bool (by rw [spansB, all_false _ xs k hlt h1]; rfl), rfl⟩
      · go_wp2_with (go_at_call 45; refine (l1In_any _ _ _ _).mono ?_; rintro e w' ⟨rfl, rfl⟩)
        go_round
        case rel => exact ⟨k + 1, by omega, by go_num, by rw [all_take_succ _ xs k hlt, HA.out, h1]; rfl⟩
        case measure => simp [intOf]; omega
    · obtain rfl : k = xs.length := by omega
      rw [List.take_length] at HA
      go_wp2
      go_ret
      exact ⟨ret_bool (by rw [spansB, HA.out, Bool.true_and, decide_eq_decide]; omega), rfl⟩
theorem amt_spans (xs : List Int) : amtB xs xs.length 30 = xs.all fun x => inB x 0 30 := by
  have : okB 30 = fun x => inB x 0 30 := rfl
  rw [amtB, this]; simp
set_option maxHeartbeats 2000000 in
theorem impl_spansValid (A : Option Addr) (c : Nat) (xs : List Int) (w : World) (B : Nat) (h : IS w B A xs) (hl : xs.length ≤ 1048576) :
    Calls Tryd.prog 13 #[.slice A xs.length c] w fun e w' => e = .returned (.bool (spansB xs)) ∧ w = w' := by
  by_cases h6 : xs.length ≤ 6
  · have HS := Lib.hid (show amtB xs xs.length 30 = spansB xs by rw [amt_spans, spansB, decide_eq_true h6, Bool.and_true])
    have hz : (xs.length : Int) ≤ 6 := by omega
    go_enter Tryd.func13, Tryd.ntmps13
    go_wp2_with (go_at_call 44; refine (amountsOk_any _ _ _ _ _ _ _ h (by omega)).mono ?_; rintro e w' ⟨rfl, rfl⟩)
    go_ret
    exact ⟨ret_bool HS.out, rfl⟩
  · have HS := Lib.hid (show spansB xs = false by simp [spansB, h6])
    have hd : decide ((xs.length : Int) ≤ 6) = false := decide_eq_false (by omega)
    go_enter Tryd.func13, Tryd.ntmps13
    go_wp2
    go_ret
    exact ⟨ret_bool HS.out.symm, rfl⟩
theorem spans_bound {xs : List Int} (h : spansB xs = true) (k : Nat) : 0 ≤ at0 xs k ∧ at0 xs k ≤ 30 := by
  simp only [spansB, Bool.and_eq_true, List.all_eq_true, inB_true] at h
  by_cases hk : k < xs.length
  · exact h.1 _ (at0_mem hk)
  · simp [at0, hk]
theorem spans_len {xs : List Int} (h : spansB xs = true) : xs.length ≤ 6 := by
  simp only [spansB, Bool.and_eq_true, decide_eq_true_eq] at h; exact h.2
set_option maxHeartbeats 2000000 in
theorem togClosure (A : Option Addr) (c pb : Nat) (xs : List Int) (w : World) (B : Nat) (h : IS w B A xs) (hs : spansB xs = true)
    (h1 : w.cell? ⟨pb, 0, none⟩ = some (.slice A xs.length c)) (h2 : w.frozen? ⟨pb, 0, none⟩ = false) (i j : Nat) (hi : i < xs.length) (hj : j < xs.length) :
    Calls Tryd.prog 54 #[.int .i64 i, .int .i64 j, .pointer (some ⟨pb, 0, none⟩)] w fun e w' => e = .returned (.int .i64 (at0 xs j - at0 xs i)) ∧ ∃ q, w' = w.drewN q := by
  obtain ⟨b, off, rfl, hbl, hc⟩ := h.at0_ (by omega)
  have c1 := hc i hi
  have c2 := hc j hj
  have b1 := spans_bound hs i
  have b2 := spans_bound hs j
  clear hs
  go_enter Tryd.func54, Tryd.ntmps54
  go_wp2_with fail
  go_quiet (fail)
  go_wp2
  go_ret
  exact ⟨rfl, _, rfl⟩
end Go.Proofs.YtnehedcelfpegaaDoor
