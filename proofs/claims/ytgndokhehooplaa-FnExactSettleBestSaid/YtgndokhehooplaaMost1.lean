/- Sets as sums of powers of 2: the small functions over them. -/
import Derived.Test.YtgndokhehooplaaMostP
import Derived.Lib.MinMax
import Derived.Test.YtgndokhehooplaaOwV
set_option linter.unusedVariables false
set_option linter.unusedSimpArgs false
namespace Go.Proofs.Ytgndokhehooplaa
open Go.ChangeShapes Go.WideShapes Go.ChangeAt Go.RowKit

theorem bv_nat (a : Nat) (ha : a < 4611686018427387904) : (BitVec.ofInt 64 (a : Int)).toNat = a := by
  rw [BitVec.ofInt_natCast, BitVec.toNat_ofNat]; exact Nat.mod_eq_of_lt (by omega)
theorem and_i64 (a b : Nat) (ha : a < 4611686018427387904) (hb : b < 4611686018427387904) : bits .and .i64 (a : Int) (b : Int) = ((a &&& b : Nat) : Int) := by
  have hx : a &&& b ≤ a := Nat.and_le_left
  show IntKind.i64.wrap ((BitVec.ofInt 64 (a : Int) &&& BitVec.ofInt 64 (b : Int)).toNat : Int) = _
  rw [BitVec.toNat_and, bv_nat a ha, bv_nat b hb, IntKind.wrap_i64]
  omega
theorem or_i64 (a b : Nat) (ha : a < 4611686018427387904) (hb : b < 4611686018427387904) : bits .or .i64 (a : Int) (b : Int) = ((a ||| b : Nat) : Int) := by
  have hx : a ||| b < 2 ^ 62 := Nat.or_lt_two_pow (by omega) (by omega)
  show IntKind.i64.wrap ((BitVec.ofInt 64 (a : Int) ||| BitVec.ofInt 64 (b : Int)).toNat : Int) = _
  rw [BitVec.toNat_or, bv_nat a ha, bv_nat b hb, IntKind.wrap_i64]
  omega
theorem and_half (a b : Nat) : (a &&& b) / 2 = a / 2 &&& b / 2 ∧ (a &&& b) % 2 = (a % 2) * (b % 2) := by
  refine ⟨Nat.and_div_two, ?_⟩
  have := Nat.and_mod_two_pow (a := a) (b := b) (n := 1)
  simp only [Nat.pow_one] at this
  rw [this]
  rcases Nat.mod_two_eq_zero_or_one a with e | e <;> rcases Nat.mod_two_eq_zero_or_one b with e' | e' <;> rw [e, e'] <;> rfl
theorem or_half (a b : Nat) : (a ||| b) / 2 = a / 2 ||| b / 2 ∧ (a ||| b) % 2 = a % 2 + b % 2 - (a % 2) * (b % 2) := by
  refine ⟨Nat.or_div_two, ?_⟩
  have := Nat.or_mod_two_pow (a := a) (b := b) (n := 1)
  simp only [Nat.pow_one] at this
  rw [this]
  rcases Nat.mod_two_eq_zero_or_one a with e | e <;> rcases Nat.mod_two_eq_zero_or_one b with e' | e' <;> rw [e, e'] <;> rfl
theorem and_or_add (a b : Nat) : (a &&& b) + (a ||| b) = a + b := by
  induction a using Nat.strongRecOn generalizing b with
  | _ a ih =>
    rcases Nat.eq_zero_or_pos a with e | e
    · subst e; simp
    · obtain ⟨h1, h2⟩ := and_half a b
      obtain ⟨h3, h4⟩ := or_half a b
      have h5 := ih (a / 2) (by omega) (b / 2)
      have h6 : (a % 2) * (b % 2) = 0 ∨ (a % 2) * (b % 2) = 1 ∧ a % 2 = 1 ∧ b % 2 = 1 := by
        rcases Nat.mod_two_eq_zero_or_one a with e | e <;> rcases Nat.mod_two_eq_zero_or_one b with e' | e' <;> rw [e, e'] <;> simp
      rw [← h1, ← h3] at h5
      rcases h6 with h6 | ⟨h6, h7, h8⟩
      · rw [h6] at h2 h4; omega
      · rw [h6] at h2 h4; omega
theorem andnot_nat : ∀ (n a b : Nat), a < 2 ^ n → Sub b a → (a &&& (2 ^ n - 1 - b)) = a - b
  | 0, a, b, ha, hb => by have := sub_le hb; simp at ha; subst ha; have : b = 0 := by omega
                          subst this; simp
  | n + 1, a, b, ha, hb => by
    obtain ⟨h1, h2⟩ := sub_half.1 hb
    have hle := sub_le hb
    have hle2 := sub_le h2
    rw [Nat.pow_succ] at ha ⊢
    have e1 : (2 ^ n * 2 - 1 - b) / 2 = 2 ^ n - 1 - b / 2 := by omega
    have e2 : (2 ^ n * 2 - 1 - b) % 2 = 1 - b % 2 := by omega
    obtain ⟨h3, h4⟩ := and_half a (2 ^ n * 2 - 1 - b)
    rw [e1, andnot_nat n (a / 2) (b / 2) (by omega) h2] at h3
    rw [e2] at h4
    rcases Nat.mod_two_eq_zero_or_one b with e | e
    · rw [e] at h4
      simp at h4
      omega
    · have := h1 e
      rw [e] at h4
      simp at h4
      omega
theorem andnot_i64 (a b : Nat) (ha : a < 4611686018427387904) (hb : Sub b a) : bits .andNot .i64 (a : Int) (b : Int) = ((a - b : Nat) : Int) := by
  have hle := sub_le hb
  show IntKind.i64.wrap ((BitVec.ofInt 64 (a : Int) &&& ~~~ BitVec.ofInt 64 (b : Int)).toNat : Int) = _
  rw [BitVec.toNat_and, BitVec.toNat_not, bv_nat a ha, bv_nat b (by omega), andnot_nat 64 a b (by omega) hb, IntKind.wrap_i64]
  omega
theorem or_pow (x i : Nat) : x % 2 ^ (i + 1) = x % 2 ^ i + (if x / 2 ^ i % 2 = 1 then 2 ^ i else 0) := by
  rw [Nat.mod_pow_succ]
  split
  · rename_i h; rw [h]; omega
  · have : x / 2 ^ i % 2 = 0 := by omega
    rw [this]; omega
theorem or_shift (a b i : Nat) : (a ||| b) / 2 ^ i % 2 = 1 ↔ a / 2 ^ i % 2 = 1 ∨ b / 2 ^ i % 2 = 1 := by
  have h : (a ||| b) / 2 ^ i = a / 2 ^ i ||| b / 2 ^ i := by
    rw [← Nat.shiftRight_eq_div_pow, ← Nat.shiftRight_eq_div_pow, ← Nat.shiftRight_eq_div_pow, Nat.shiftRight_or_distrib]
  rw [h, (or_half _ _).2]
  rcases Nat.mod_two_eq_zero_or_one (a / 2 ^ i) with e | e <;> rcases Nat.mod_two_eq_zero_or_one (b / 2 ^ i) with e' | e' <;> rw [e, e'] <;> simp
end Go.Proofs.Ytgndokhehooplaa
