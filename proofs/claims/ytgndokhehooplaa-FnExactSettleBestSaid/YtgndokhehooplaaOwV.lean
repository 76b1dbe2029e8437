/- OwedValid: what the program and the reference compute. -/
import Derived.Test.YtgndokhehooplaaInts
set_option linter.unusedVariables false
set_option linter.unusedSimpArgs false
namespace Go.Proofs.Ytgndokhehooplaa
open Go.ChangeShapes Go.WideShapes Go.ChangeAt Go.RowKit

def owedB (xs : List Int) : Bool := decide (xs.length ≤ 7) && (xs.all (fun x => inB x (-9999) 9999) && xs.sum == 0)
theorem owed_mem {xs : List Int} (h : xs.all (fun x => inB x (-9999) 9999) = true) : ∀ x ∈ xs, -1000000 ≤ x ∧ x ≤ 1000000 := by
  intro x hx
  have := inB_true.1 (List.all_eq_true.1 h x hx)
  omega

set_option maxHeartbeats 1000000 in
theorem spec_owedValid (A : Option Addr) (c : Nat) (xs : List Int) (w : World) (B : Nat) (h : IS w B A xs) (hl : xs.length ≤ 1048576) :
    Calls Try.prog 32 #[.slice A xs.length c] w fun e w' => e = .returned (.bool (owedB xs)) ∧ w = w' := by
  go_enter Try.func32, Try.ntmps32
  go_wp2
  go_loop [3] (fun i => ∃ k : Nat, k ≤ xs.length ∧ i = .int .i64 k ∧ (xs.take k).all (fun x => inB x (-9999) 9999) = true) (fun i => xs.length - (intOf i).toNat)
  case atStart => exact ⟨0, Nat.zero_le _, rfl, by simp⟩
  case round =>
    obtain ⟨k, hk, rfl, ha⟩ := hrel
    have HA := Lib.hid ha
    clear ha
    by_cases hlt : k < xs.length
    · obtain ⟨b, off, rfl, hbl, hc⟩ := h.at_ (by omega)
      have hck := hc k hlt
      cases h1 : inB xs[k] (-9999) 9999
      · go_wp2_with (go_at_call 39; refine (l1In_any _ _ _ _).mono ?_; rintro e w' ⟨rfl, rfl⟩)
        go_ret
        exact ⟨ret_bool (by rw [owedB, all_false _ xs k hlt h1]; simp), rfl⟩
      · go_wp2_with (go_at_call 39; refine (l1In_any _ _ _ _).mono ?_; rintro e w' ⟨rfl, rfl⟩)
        go_round
        case rel => exact ⟨k + 1, by omega, by go_num, by rw [all_take_succ _ xs k hlt, HA.out, h1]; rfl⟩
        case measure => simp [intOf]; omega
    · have hall : xs.all (fun x => inB x (-9999) 9999) = true := by rw [← all_take_end _ xs k (by omega)]; exact HA.out
      have hb := owed_mem hall
      have HALL := Lib.hid hall
      clear hall HA
      by_cases h7 : xs.length ≤ 7
      · go_wp2_with (go_at_call 40; refine (l1Sum_any _ _ _ _ _ h hl hb).mono ?_; rintro e w' ⟨rfl, rfl⟩)
        go_ret
        exact ⟨ret_bool (by rw [owedB, HALL.out]; simp [h7]), rfl⟩
      · go_wp2
        go_ret
        exact ⟨ret_bool (by rw [owedB]; simp [h7]), rfl⟩

set_option maxHeartbeats 1000000 in
theorem impl_owedValid (A : Option Addr) (c : Nat) (xs : List Int) (w : World) (B : Nat) (h : IS w B A xs) (hl : xs.length ≤ 1048576) :
    Calls Try.prog 34 #[.slice A xs.length c] w fun e w' => e = .returned (.bool (owedB xs)) ∧ w = w' := by
  by_cases h7 : xs.length ≤ 7
  · go_enter Try.func34, Try.ntmps34
    go_wp2
    go_loop [4, 10] (fun _ i => ∃ k : Nat, k ≤ xs.length ∧ i = .int .i64 k ∧ (xs.take k).all (fun x => inB x (-9999) 9999) = true) (fun _ i => xs.length - (intOf i).toNat)
    case atStart => exact ⟨0, Nat.zero_le _, rfl, by simp⟩
    case round =>
      obtain ⟨k, hk, rfl, ha⟩ := hrel
      have HA := Lib.hid ha
      clear ha
      by_cases hlt : k < xs.length
      · obtain ⟨b, off, rfl, hbl, hc⟩ := h.at_ (by omega)
        have hck := hc k hlt
        by_cases h1 : -9999 ≤ xs[k]
        · by_cases h2 : xs[k] ≤ 9999
          · go_wp2
            go_round
            case rel => exact ⟨k + 1, by omega, by go_num, by rw [all_take_succ _ xs k hlt, HA.out]; simp [inB, h1, h2]⟩
            case measure => simp [intOf]; omega
          · go_wp2
            go_ret
            exact ⟨ret_bool (by rw [owedB, all_false _ xs k hlt (by rw [inB_false]; omega)]; simp), rfl⟩
        · go_wp2
          go_ret
          exact ⟨ret_bool (by rw [owedB, all_false _ xs k hlt (by rw [inB_false]; omega)]; simp), rfl⟩
      · have hall : xs.all (fun x => inB x (-9999) 9999) = true := by rw [← all_take_end _ xs k (by omega)]; exact HA.out
        have hb := owed_mem hall
        have HALL := Lib.hid hall
        clear hall HA
        go_wp2_with (go_at_call 43; refine (sumOf_any _ _ _ _ _ h hl hb).mono ?_; rintro e w' ⟨rfl, rfl⟩)
        go_ret
        exact ⟨ret_bool (by rw [owedB, HALL.out]; simp [h7]), rfl⟩
  · go_enter Try.func34, Try.ntmps34
    go_wp2
    go_ret
    exact ⟨ret_bool (by rw [owedB]; simp [h7]), rfl⟩


end Go.Proofs.Ytgndokhehooplaa
