/- SharesValid: what the program and the reference compute. -/
import Derived.Test.YtgndokhehooplaaInts
set_option linter.unusedVariables false
set_option linter.unusedSimpArgs false
namespace Go.Proofs.Ytgndokhehooplaa
open Go.ChangeShapes Go.WideShapes Go.ChangeAt Go.RowKit

def sharesB (xs : List Int) : Bool := inB xs.length 1 7 && (xs.all (okB 20) && decide (0 < xs.sum))
theorem shares_mem {xs : List Int} (h : xs.all (okB 20) = true) : ∀ x ∈ xs, -1000000 ≤ x ∧ x ≤ 1000000 := by
  intro x hx
  have := List.all_eq_true.1 h x hx
  simp [okB] at this
  omega

set_option maxHeartbeats 1000000 in
theorem spec_sharesValid (A : Option Addr) (c : Nat) (xs : List Int) (w : World) (B : Nat) (h : IS w B A xs) (hl : xs.length ≤ 1048576) :
    Calls Try.prog 38 #[.slice A xs.length c] w fun e w' => e = .returned (.bool (sharesB xs)) ∧ w = w' := by
  go_enter Try.func38, Try.ntmps38
  go_wp2
  go_loop [3] (fun i => ∃ k : Nat, k ≤ xs.length ∧ i = .int .i64 k ∧ (xs.take k).all (okB 20) = true) (fun i => xs.length - (intOf i).toNat)
  case atStart => exact ⟨0, Nat.zero_le _, rfl, by simp⟩
  case round =>
    obtain ⟨k, hk, rfl, ha⟩ := hrel
    have HA := Lib.hid ha
    clear ha
    by_cases hlt : k < xs.length
    · obtain ⟨b, off, rfl, hbl, hc⟩ := h.at_ (by omega)
      have hck := hc k hlt
      cases h1 : inB xs[k] 0 20
      · go_wp2_with (go_at_call 39; refine (l1In_any _ _ _ _).mono ?_; rintro e w' ⟨rfl, rfl⟩)
        go_ret
        exact ⟨ret_bool (by rw [sharesB, all_false _ xs k hlt h1]; simp), rfl⟩
      · go_wp2_with (go_at_call 39; refine (l1In_any _ _ _ _).mono ?_; rintro e w' ⟨rfl, rfl⟩)
        go_round
        case rel => exact ⟨k + 1, by omega, by go_num, by rw [all_take_succ _ xs k hlt, HA.out]; exact h1⟩
        case measure => simp [intOf]; omega
    · have hall : xs.all (okB 20) = true := by rw [← all_take_end _ xs k (by omega)]; exact HA.out
      have hb := shares_mem hall
      have HALL := Lib.hid hall
      clear hall HA
      cases h7 : inB xs.length 1 7
      · go_wp2_with (go_at_call 39; refine (l1In_any _ _ _ _).mono ?_; rintro e w' ⟨rfl, rfl⟩)
        go_ret
        exact ⟨ret_bool (by rw [sharesB, h7]; simp), rfl⟩
      · go_wp2_with (first | (go_at_call 39; refine (l1In_any _ _ _ _).mono ?_; rintro e w' ⟨rfl, rfl⟩) | (go_at_call 40; refine (l1Sum_any _ _ _ _ _ h hl hb).mono ?_; rintro e w' ⟨rfl, rfl⟩))
        go_ret
        exact ⟨ret_bool (by rw [sharesB, HALL.out, h7]; simp), rfl⟩

set_option maxHeartbeats 1000000 in
theorem impl_sharesValid (A : Option Addr) (c : Nat) (xs : List Int) (w : World) (B : Nat) (h : IS w B A xs) (hl : xs.length ≤ 1048576) :
    Calls Try.prog 42 #[.slice A xs.length c] w fun e w' => e = .returned (.bool (sharesB xs)) ∧ w = w' := by
  by_cases h1 : 1 ≤ xs.length
  · by_cases h7 : xs.length ≤ 7
    · cases ha : amtB xs xs.length 20
      · go_enter Try.func42, Try.ntmps42
        go_wp2_with (go_at_call 47; refine (amountsOk_any _ _ _ _ _ _ _ h (by omega)).mono ?_; rintro e w' ⟨rfl, rfl⟩)
        go_ret
        exact ⟨ret_bool (by simp [amtB] at ha; simp [sharesB]; intro _ hh; obtain ⟨x, hx, hx2⟩ := ha; exact absurd (hh x hx) (by simp [hx2])), rfl⟩
      · have hall : xs.all (okB 20) = true := by simpa [amtB] using ha
        have hb := shares_mem hall
        have HALL := Lib.hid hall
        clear hall
        go_enter Try.func42, Try.ntmps42
        go_wp2_with (first | (go_at_call 47; refine (amountsOk_any _ _ _ _ _ _ _ h (by omega)).mono ?_; rintro e w' ⟨rfl, rfl⟩) | (go_at_call 43; refine (sumOf_any _ _ _ _ _ h hl hb).mono ?_; rintro e w' ⟨rfl, rfl⟩))
        go_ret
        exact ⟨ret_bool (by rw [sharesB, HALL.out, inB_true.2 ⟨by omega, by omega⟩]; simp), rfl⟩
    · go_enter Try.func42, Try.ntmps42
      go_wp2
      go_ret
      exact ⟨ret_bool (by rw [sharesB, inB_false.2 (by omega)]; simp), rfl⟩
  · go_enter Try.func42, Try.ntmps42
    go_wp2
    go_ret
    exact ⟨ret_bool (by rw [sharesB, inB_false.2 (by omega)]; simp), rfl⟩

end Go.Proofs.Ytgndokhehooplaa
