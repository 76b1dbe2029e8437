/- l1Join, l1Meet, l5Sum: contracts. -/
import Derived.Test.YtgndokhehooplaaMost1
set_option linter.unusedVariables false
set_option linter.unusedSimpArgs false
namespace Go.Proofs.Ytgndokhehooplaa
open Go.ChangeShapes Go.WideShapes Go.ChangeAt Go.RowKit

set_option maxHeartbeats 2000000 in
theorem l1Join_any (a b : Nat) (w : World) (ha : a < 1000) (hb : b < 1000) :
    Calls Try.prog 72 #[.int .i64 (a : Int), .int .i64 (b : Int)] w fun e w' => e = .returned (.int .i64 ((a ||| b : Nat) : Int)) ∧ w = w' := by
  go_enter Try.func72, Try.ntmps72
  go_wp2
  go_loop [5, 6] (fun o i => ∃ k : Nat, k ≤ 10 ∧ i = .int .i64 ((2 ^ k : Nat) : Int) ∧ o = .int .i64 (((a ||| b) % 2 ^ k : Nat) : Int)) (fun _ i => 2048 - (intOf i).toNat)
  case atStart => exact ⟨0, by omega, rfl, by simp [Nat.mod_one]⟩
  case round =>
    obtain ⟨k, hk, rfl, rfl⟩ := hrel
    by_cases hlt : 2 ^ k ≤ max a b
    · have hk9 : k ≤ 9 := by
        rcases Nat.lt_or_ge k 10 with h | h
        · omega
        · have := Nat.pow_le_pow_right (show 0 < 2 by omega) h; omega
      have HS := Lib.hid (or_pow (a ||| b) k)
      have HO := Lib.hid (or_shift a b k)
      have HP := Lib.hid (Nat.pow_succ (n := 2) (m := k))
      have hpp : 0 < 2 ^ k := Nat.pow_pos (by omega)
      have hor : a ||| b < 1024 := Nat.or_lt_two_pow (n := 10) (by omega) (by omega)
      have hm := Nat.mod_le (a ||| b) (2 ^ k)
      rw [HP.out] at HS
      generalize (a ||| b) % 2 ^ k = m at *
      have HA1 : (a : Int).tdiv ((2 ^ k : Nat) : Int) = ((a / 2 ^ k : Nat) : Int) := Int.ofNat_tdiv a (2 ^ k)
      have HB1 : (b : Int).tdiv ((2 ^ k : Nat) : Int) = ((b / 2 ^ k : Nat) : Int) := Int.ofNat_tdiv b (2 ^ k)
      have HA2 : ((a / 2 ^ k : Nat) : Int).tmod 2 = ((a / 2 ^ k % 2 : Nat) : Int) := Int.ofNat_tmod (a / 2 ^ k) 2
      have HB2 : ((b / 2 ^ k : Nat) : Int).tmod 2 = ((b / 2 ^ k % 2 : Nat) : Int) := Int.ofNat_tmod (b / 2 ^ k) 2
      have hda := Nat.div_le_self a (2 ^ k)
      have hdb := Nat.div_le_self b (2 ^ k)
      have hma := Nat.mod_lt (a / 2 ^ k) (show 0 < 2 by omega)
      have hmb := Nat.mod_lt (b / 2 ^ k) (show 0 < 2 by omega)
      have hpl : 2 ^ k ≤ 1000 := by omega
      generalize (a ||| b) / 2 ^ k % 2 = q at *
      generalize a / 2 ^ k % 2 = qa at *
      generalize b / 2 ^ k % 2 = qb at *
      generalize a / 2 ^ k = da at *
      generalize b / 2 ^ k = db at *
      generalize 2 ^ k = p at *
      have hpz : ((p : Int) == 0) = false := by rw [beq_eq_false_iff_ne]; omega
      have hpz2 : ¬ ((p : Int) = 0) := by omega
      have hpz3 : ¬ (p = 0) := by omega
      have hle1 : (p : Int) ≤ max (a : Int) (b : Int) := by omega
      by_cases h1 : qa = 1
      · subst h1
        have HR := Lib.hid (show (a ||| b) % (p * 2) = m + p by have := HS.out; rw [if_pos (HO.out.2 (.inl rfl))] at this; exact this)
        go_wp2
        go_round
        case rel => exact ⟨k + 1, by omega, by rw [HP.out]; go_num, by rw [HP.out]; first | (rw [HR.out]; go_num) | rw [HR.out]⟩
        case measure => (simp [intOf]) <;> omega
      · have h1b : ((qa : Int) == 1) = false := by rw [beq_eq_false_iff_ne]; omega
        by_cases h2 : qb = 1
        · subst h2
          have HR := Lib.hid (show (a ||| b) % (p * 2) = m + p by have := HS.out; rw [if_pos (HO.out.2 (.inr rfl))] at this; exact this)
          go_wp2
          go_round
          case rel => exact ⟨k + 1, by omega, by rw [HP.out]; go_num, by rw [HP.out]; first | (rw [HR.out]; go_num) | rw [HR.out]⟩
          case measure => (simp [intOf]) <;> omega
        · have h2b : ((qb : Int) == 1) = false := by rw [beq_eq_false_iff_ne]; omega
          have HR := Lib.hid (show (a ||| b) % (p * 2) = m by have := HS.out; rw [if_neg (fun h => by rcases HO.out.1 h with h | h; exact h1 h; exact h2 h)] at this; omega)
          go_wp2
          go_round
          case rel => exact ⟨k + 1, by omega, by rw [HP.out]; go_num, by rw [HP.out]; first | (rw [HR.out]; go_num) | rw [HR.out]⟩
          case measure => (simp [intOf]) <;> omega
    · have hor : a ||| b < 2 ^ k := Nat.or_lt_two_pow (by omega) (by omega)
      have HM := Lib.hid (Nat.mod_eq_of_lt hor)
      generalize (a ||| b) % 2 ^ k = m at *
      generalize 2 ^ k = p at *
      have hd : decide ((p : Int) ≤ max (a : Int) (b : Int)) = false := decide_eq_false (by omega)
      have hd2 : decide (p ≤ max a b) = false := decide_eq_false hlt
      go_wp2
      go_ret
      exact ⟨ret_int (by rw [HM.out]), rfl⟩
theorem l1Meet_any (a b : Nat) (w : World) (ha : a < 1000) (hb : b < 1000) :
    Calls Try.prog 66 #[.int .i64 (a : Int), .int .i64 (b : Int)] w fun e w' => e = .returned (.int .i64 ((a &&& b : Nat) : Int)) ∧ w = w' := by
  have HAO := Lib.hid (and_or_add a b)
  have hal : a &&& b ≤ a := Nat.and_le_left
  have hol : a ||| b < 1024 := Nat.or_lt_two_pow (n := 10) (by omega) (by omega)
  have hmo : a ||| b ≤ a + b := by have := and_or_add a b; omega
  go_enter Try.func66, Try.ntmps66
  go_wp2_with fail
  refine (l1Join_any a b _ ha hb).mono ?_
  rintro e w' ⟨rfl, rfl⟩
  generalize a ||| b = o at *

  go_wp2
  go_ret
  exact ⟨ret_int (by have := HAO.out; omega), rfl⟩
theorem sumM_take : ∀ (ow : List Int) (k s : Nat), k < ow.length → sumM (ow.take (k + 1)) s = sumM (ow.take k) s + (if s / 2 ^ k % 2 = 1 then at0 ow k else 0)
  | [], k, s, h => absurd h (by simp)
  | x :: t, 0, s, h => by simp [sumM, at0]
  | x :: t, k + 1, s, h => by
    have := sumM_take t k (s / 2) (by simpa using h)
    rw [List.take_succ_cons, List.take_succ_cons, sumM, sumM, this, Nat.div_div_eq_div_mul, show 2 * 2 ^ k = 2 ^ (k + 1) by rw [Nat.pow_succ]; omega]
    have e : at0 (x :: t) (k + 1) = at0 t k := rfl
    rw [e]; omega
set_option maxHeartbeats 2000000 in
theorem l5Sum_any (A : Option Addr) (c : Nat) (ow : List Int) (s : Nat) (w : World) (B : Nat) (h : IS w B A ow) (hl : ow.length ≤ 7) (hb : ∀ k, -9999 ≤ at0 ow k ∧ at0 ow k ≤ 9999) (hs : s < 1000) :
    Calls Try.prog 65 #[.slice A ow.length c, .int .i64 (s : Int)] w fun e w' => e = .returned (.int .i64 (sumM ow s)) ∧ w = w' := by
  have HB := Lib.hid hb
  clear hb
  go_enter Try.func65, Try.ntmps65
  go_wp2
  go_loop [5, 6] (fun o i => ∃ k : Nat, k ≤ ow.length ∧ i = .int .i64 k ∧ o = .int .i64 (sumM (ow.take k) s) ∧ Hid (-(9999 * (k : Int)) ≤ sumM (ow.take k) s ∧ sumM (ow.take k) s ≤ 9999 * k)) (fun _ i => ow.length - (intOf i).toNat)
  case atStart => exact ⟨0, Nat.zero_le _, rfl, by simp [sumM], Lib.hid (by simp [sumM])⟩
  case round =>
    obtain ⟨k, hk, rfl, rfl, HBD⟩ := hrel
    by_cases hlt : k < ow.length
    · obtain ⟨b, off, rfl, hbl, hc⟩ := h.at0_ (by omega)
      have hck := hc k hlt
      have hx := HB.out k
      have hbd := HBD.out
      have HS := Lib.hid (sumM_take ow k s hlt)
      have hsh : (s : Int).fdiv (2 ^ k) = ((s / 2 ^ k : Nat) : Int) := by
        have : ((2 : Int) ^ k) = ((2 ^ k : Nat) : Int) := by simp
        rw [this]; exact (Int.ofNat_fdiv s (2 ^ k)).symm
      have hsh2 : (s : Int) / 2 ^ k = ((s / 2 ^ k : Nat) : Int) := by simp
      have hmod : ((s / 2 ^ k : Nat) : Int).tmod 2 = ((s / 2 ^ k % 2 : Nat) : Int) := Int.ofNat_tmod _ 2
      have hml := Nat.mod_lt (s / 2 ^ k) (show 0 < 2 by omega)
      have hdl := Nat.div_le_self s (2 ^ k)
      have hk64 : min k 64 = k := by omega
      generalize s / 2 ^ k % 2 = q at *
      generalize s / 2 ^ k = d at *
      generalize sumM (ow.take k) s = sm at *
      clear hc
      generalize at0 ow k = x at *
      by_cases h1 : q = 1
      · subst h1
        have HR := Lib.hid (show sumM (ow.take (k + 1)) s = sm + x by rw [HS.out]; simp)
        go_wp2

        go_round
        case rel => exact ⟨k + 1, by omega, by go_num, by rw [HR.out], Lib.hid (by rw [HR.out]; omega)⟩
        case measure => (simp [intOf]) <;> omega
      · have h1b : ((q : Int) == 1) = false := by rw [beq_eq_false_iff_ne]; omega
        have HR := Lib.hid (show sumM (ow.take (k + 1)) s = sm by rw [HS.out, if_neg h1]; omega)
        go_wp2
        go_round
        case rel => exact ⟨k + 1, by omega, by go_num, by rw [HR.out], Lib.hid (by rw [HR.out]; omega)⟩
        case measure => (simp [intOf]) <;> omega
    · obtain rfl : k = ow.length := by omega
      rw [List.take_length]
      go_wp2
      go_ret
      exact ⟨rfl, rfl⟩
end Go.Proofs.Ytgndokhehooplaa
