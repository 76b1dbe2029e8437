/- TipOf, OwedValid, SharesValid: what the program and the reference compute; the walks of three laws. -/
import Derived.Test.YtnopgmgoehenpaaInts
namespace Go.Proofs.Ytnopgmgoehenpaa
open Go.ChangeShapes Go.WideShapes Go.ChangeAt Go.RowKit

/-! ### TipOf -/
theorem spec_tip_no (a b : Int) (w : World) (h : ¬ (0 ≤ a ∧ a ≤ 9999 ∧ 0 ≤ b ∧ b ≤ 100)) :
    Calls Try.prog 13 #[.int .i64 a, .int .i64 b] w fun e w' => e = .returned (.int .i64 (-1)) ∧ w = w' := by
  by_cases h1 : inB a 0 9999 = true
  · have h2 : inB b 0 100 = false := by rw [inB_true] at h1; rw [inB_false]; omega
    go_enter Try.func13, Try.ntmps13
    go_wp2_with (go_at_call 42; refine (l1In_any _ _ _ _).mono ?_; rintro e w' ⟨rfl, rfl⟩)
    go_ret
    exact ⟨rfl, rfl⟩
  · have h1' : inB a 0 9999 = false := by simpa using h1
    clear h1
    go_enter Try.func13, Try.ntmps13
    go_wp2_with (go_at_call 42; refine (l1In_any _ _ _ _).mono ?_; rintro e w' ⟨rfl, rfl⟩)
    go_ret
    exact ⟨rfl, rfl⟩
theorem tip_bounds (a b : Int) (h1 : 0 ≤ a) (h2 : a ≤ 9999) (h3 : 0 ≤ b) (h4 : b ≤ 100) : 0 ≤ a * b ∧ a * b ≤ 999900 := by
  have h5 : 0 ≤ a * b := Int.mul_nonneg h1 h3
  have := Int.mul_le_mul h2 h4 h3 (by omega)
  omega
theorem spec_tip_yes (a b : Int) (w : World) (h1 : 0 ≤ a) (h2 : a ≤ 9999) (h3 : 0 ≤ b) (h4 : b ≤ 100) :
    Calls Try.prog 13 #[.int .i64 a, .int .i64 b] w fun e w' => e = .returned (.int .i64 ((a * b + 99) / 100)) ∧ w = w' := by
  obtain ⟨h5, h6⟩ := tip_bounds a b h1 h2 h3 h4
  have g1 : inB a 0 9999 = true := inB_true.2 ⟨h1, h2⟩
  have g2 : inB b 0 100 = true := inB_true.2 ⟨h3, h4⟩
  go_enter Try.func13, Try.ntmps13
  go_wp2_with (go_at_call 42; refine (l1In_any _ _ _ _).mono ?_; rintro e w' ⟨rfl, rfl⟩)
  go_ret
  exact ⟨rfl, rfl⟩
theorem impl_tip_no (a b : Int) (w : World) (h : ¬ (0 ≤ a ∧ a ≤ 9999 ∧ 0 ≤ b ∧ b ≤ 100)) :
    Calls Try.prog 14 #[.int .i64 a, .int .i64 b] w fun e w' => e = .returned (.int .i64 (-1)) ∧ w = w' := by
  go_enter Try.func14, Try.ntmps14
  go_wp2
  all_goals (go_ret; exact ⟨rfl, rfl⟩)
theorem impl_tip_yes (a b : Int) (w : World) (h1 : 0 ≤ a) (h2 : a ≤ 9999) (h3 : 0 ≤ b) (h4 : b ≤ 100) :
    Calls Try.prog 14 #[.int .i64 a, .int .i64 b] w fun e w' => e = .returned (.int .i64 ((a * b + 99) / 100)) ∧ w = w' := by
  obtain ⟨h5, h6⟩ := tip_bounds a b h1 h2 h3 h4
  go_enter Try.func14, Try.ntmps14
  go_wp2
  go_ret
  exact ⟨rfl, rfl⟩
theorem walk_fnExactTipOf (w : World) (a b : Int) :
    Calls Try.prog 3 #[.int .i64 a, .int .i64 b] w fun e w' => e = .returned (.bool true) ∧ Grown w w' := by
  by_cases h : 0 ≤ a ∧ a ≤ 9999 ∧ 0 ≤ b ∧ b ≤ 100
  · obtain ⟨h1, h2, h3, h4⟩ := h
    go_enter Try.func3, Try.ntmps3
    go_wp2_with (first | (go_at_call 13; refine (spec_tip_yes _ _ _ h1 h2 h3 h4).mono ?_; rintro e w' ⟨rfl, rfl⟩) | (go_at_call 14; refine (impl_tip_yes _ _ _ h1 h2 h3 h4).mono ?_; rintro e w' ⟨rfl, rfl⟩))
    go_ret
    exact ⟨rfl, Grown.refl _⟩
  · have H := Lib.hid h
    clear h
    go_enter Try.func3, Try.ntmps3
    go_wp2_with (first | (go_at_call 13; refine (spec_tip_no _ _ _ H.out).mono ?_; rintro e w' ⟨rfl, rfl⟩) | (go_at_call 14; refine (impl_tip_no _ _ _ H.out).mono ?_; rintro e w' ⟨rfl, rfl⟩))
    go_ret
    exact ⟨rfl, Grown.refl _⟩

/-! ### OwedValid -/
def owedB (xs : List Int) : Bool := decide (xs.length ≤ 7) && (xs.all (fun x => inB x (-9999) 9999) && xs.sum == 0)
theorem owed_mem {xs : List Int} (h : xs.all (fun x => inB x (-9999) 9999) = true) : ∀ x ∈ xs, -1000000 ≤ x ∧ x ≤ 1000000 := by
  intro x hx
  have := inB_true.1 (List.all_eq_true.1 h x hx)
  omega

set_option maxHeartbeats 1000000 in
theorem spec_owedValid (A : Option Addr) (c : Nat) (xs : List Int) (w : World) (B : Nat) (h : IS w B A xs) (hl : xs.length ≤ 1048576) :
    Calls Try.prog 15 #[.slice A xs.length c] w fun e w' => e = .returned (.bool (owedB xs)) ∧ w = w' := by
  go_enter Try.func15, Try.ntmps15
  go_wp2
  go_loop [3] (fun i => ∃ k : Nat, k ≤ xs.length ∧ i = .int .i64 k ∧ (xs.take k).all (fun x => inB x (-9999) 9999) = true) (fun i => xs.length - (intOf i).toNat)
  case atStart => exact ⟨0, Nat.zero_le _, rfl, by simp⟩
  case round =>
    obtain ⟨k, hk, rfl, ha⟩ := hrel
    have HA := Lib.hid ha
    clear ha
    by_cases hlt : k < xs.length
    · obtain ⟨b, off, rfl, hbl, hc⟩ := h.at_ (by omega)
      have hck := hc k hlt
      cases h1 : inB xs[k] (-9999) 9999
      · go_wp2_with (go_at_call 42; refine (l1In_any _ _ _ _).mono ?_; rintro e w' ⟨rfl, rfl⟩)
        go_ret
        exact ⟨ret_bool (by rw [owedB, all_false _ xs k hlt h1]; simp), rfl⟩
      · go_wp2_with (go_at_call 42; refine (l1In_any _ _ _ _).mono ?_; rintro e w' ⟨rfl, rfl⟩)
        go_round
        case rel => exact ⟨k + 1, by omega, by go_num, by rw [all_take_succ _ xs k hlt, HA.out, h1]; rfl⟩
        case measure => simp [intOf]; omega
    · have hall : xs.all (fun x => inB x (-9999) 9999) = true := by rw [← all_take_end _ xs k (by omega)]; exact HA.out
      have hb := owed_mem hall
      have HALL := Lib.hid hall
      clear hall HA
      by_cases h7 : xs.length ≤ 7
      · go_wp2_with (go_at_call 43; refine (l1Sum_any _ _ _ _ _ h hl hb).mono ?_; rintro e w' ⟨rfl, rfl⟩)
        go_ret
        exact ⟨ret_bool (by rw [owedB, HALL.out]; simp [h7]), rfl⟩
      · go_wp2
        go_ret
        exact ⟨ret_bool (by rw [owedB]; simp [h7]), rfl⟩

set_option maxHeartbeats 1000000 in
theorem impl_owedValid (A : Option Addr) (c : Nat) (xs : List Int) (w : World) (B : Nat) (h : IS w B A xs) (hl : xs.length ≤ 1048576) :
    Calls Try.prog 17 #[.slice A xs.length c] w fun e w' => e = .returned (.bool (owedB xs)) ∧ w = w' := by
  by_cases h7 : xs.length ≤ 7
  · go_enter Try.func17, Try.ntmps17
    go_wp2
    go_loop [4, 10] (fun _ i => ∃ k : Nat, k ≤ xs.length ∧ i = .int .i64 k ∧ (xs.take k).all (fun x => inB x (-9999) 9999) = true) (fun _ i => xs.length - (intOf i).toNat)
    case atStart => exact ⟨0, Nat.zero_le _, rfl, by simp⟩
    case round =>
      obtain ⟨k, hk, rfl, ha⟩ := hrel
      have HA := Lib.hid ha
      clear ha
      by_cases hlt : k < xs.length
      · obtain ⟨b, off, rfl, hbl, hc⟩ := h.at_ (by omega)
        have hck := hc k hlt
        by_cases h1 : -9999 ≤ xs[k]
        · by_cases h2 : xs[k] ≤ 9999
          · go_wp2
            go_round
            case rel => exact ⟨k + 1, by omega, by go_num, by rw [all_take_succ _ xs k hlt, HA.out]; simp [inB, h1, h2]⟩
            case measure => simp [intOf]; omega
          · go_wp2
            go_ret
            exact ⟨ret_bool (by rw [owedB, all_false _ xs k hlt (by rw [inB_false]; omega)]; simp), rfl⟩
        · go_wp2
          go_ret
          exact ⟨ret_bool (by rw [owedB, all_false _ xs k hlt (by rw [inB_false]; omega)]; simp), rfl⟩
      · have hall : xs.all (fun x => inB x (-9999) 9999) = true := by rw [← all_take_end _ xs k (by omega)]; exact HA.out
        have hb := owed_mem hall
        have HALL := Lib.hid hall
        clear hall HA
        go_wp2_with (go_at_call 44; refine (sumOf_any _ _ _ _ _ h hl hb).mono ?_; rintro e w' ⟨rfl, rfl⟩)
        go_ret
        exact ⟨ret_bool (by rw [owedB, HALL.out]; simp [h7]), rfl⟩
  · go_enter Try.func17, Try.ntmps17
    go_wp2
    go_ret
    exact ⟨ret_bool (by rw [owedB]; simp [h7]), rfl⟩


set_option maxHeartbeats 1000000 in
theorem walk_fnExactOwedValid (w : World) (A : Option Addr) (c : Nat) (xs : List Int) (h : IS w w.heap.size A xs) (hc : xs.length ≤ c) (hm : c ≤ maxLen) :
    Calls Try.prog 4 #[.slice A xs.length c] w fun e w' => e = .returned (.bool true) ∧ Below w.heap.size w w' := by
  unfold maxLen at hm
  by_cases hl : xs.length ≤ 1048576
  · go_enter Try.func4, Try.ntmps4
    go_wp2_with fail
    refine (toIntS_any _ _ _ _ h hl).mono ?_
    rintro e w1 ⟨v1, rfl, o1, b1⟩
    obtain ⟨A1, c1, rfl, i1, _, _, _⟩ := o1.form
    have h1 := (h.below b1).more b1.size
    go_wp2_with fail
    refine (spec_owedValid _ _ _ _ _ i1 hl).mono ?_
    rintro e w' ⟨rfl, rfl⟩
    go_wp2_with fail
    refine (toIntS_any _ _ _ _ h1 hl).mono ?_
    rintro e w2 ⟨v2, rfl, o2, b2⟩
    obtain ⟨A2, c2, rfl, i2, _, _, _⟩ := o2.form
    have h2 := (h1.below b2).more b2.size
    go_wp2_with fail
    refine (impl_owedValid _ _ _ _ _ i2 hl).mono ?_
    rintro e w' ⟨rfl, rfl⟩
    go_wp2_with fail
    refine (toIntS_any _ _ _ _ h2 hl).mono ?_
    rintro e w3 ⟨v3, rfl, o3, b3⟩
    obtain ⟨A3, c3, rfl, i3, _, _, _⟩ := o3.form
    go_wp2_with fail
    refine (eqIntS_any _ _ _ _ _ _ _ _ (i2.below b3) i3 hl).mono ?_
    rintro e w4 ⟨rfl, q, rfl⟩
    go_wp2_with fail
    go_ret
    exact ⟨rfl, below_drewN (b1.trans ((b2.mono b1.size).trans (b3.mono (Nat.le_trans b1.size b2.size)))) _⟩
  · go_enter Try.func4, Try.ntmps4
    go_wp2
    go_ret
    exact ⟨rfl, Below.refl _ _⟩
end Go.Proofs.Ytnopgmgoehenpaa
