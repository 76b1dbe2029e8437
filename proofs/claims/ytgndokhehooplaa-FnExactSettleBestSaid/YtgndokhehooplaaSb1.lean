/- The least group: plain function; leastGroup and l5First. -/
import Derived.Test.YtgndokhehooplaaSbP
import Derived.Test.YtgndokhehooplaaMost6
set_option linter.unusedVariables false
set_option linter.unusedSimpArgs false
namespace Go.Proofs.Ytgndokhehooplaa
open Go.ChangeShapes Go.WideShapes Go.ChangeAt Go.RowKit

theorem sub_trans {a b c : Nat} (h : Sub a b) (k : Sub b c) : Sub a c := by
  unfold Sub at *
  rw [← h, Nat.and_assoc, k]
def cG (T : Nat → Int) (r s : Nat) : Bool := decide (s &&& r = s) && (decide (T s = 1) && decide (T (r - s) = T r - 1))
def lgS (c : Nat → Bool) (r : Nat) : Nat → Nat → Nat
  | 0, _ => r
  | f + 1, s => if s < r then (if c s then s else lgS c r f (s + 1)) else r
def lgF (T : Nat → Int) (r : Nat) : Nat := lgS (cG T r) r r 1
theorem lgS_end (c : Nat → Bool) (r f s : Nat) (h : ¬ s < r) : lgS c r f s = r := by
  cases f with
  | zero => rfl
  | succ f => rw [lgS, if_neg h]
theorem lgS_hit (c : Nat → Bool) (r f s : Nat) (h : s < r) (hf : r ≤ s + f) (hc : c s = true) : lgS c r f s = s := by
  obtain ⟨g, rfl⟩ : ∃ g, f = g + 1 := ⟨f - 1, by omega⟩
  rw [lgS, if_pos h, if_pos hc]
theorem lgS_miss (c : Nat → Bool) (r f s : Nat) (h : s < r) (hf : r ≤ s + f) (hc : c s = false) : lgS c r f s = lgS c r (f - 1) (s + 1) := by
  obtain ⟨g, rfl⟩ : ∃ g, f = g + 1 := ⟨f - 1, by omega⟩
  rw [lgS, if_pos h, if_neg (by simp [hc])]; rfl
theorem lgS_is (c : Nat → Bool) (r : Nat) : ∀ f s, lgS c r f s = r ∨ (s ≤ lgS c r f s ∧ lgS c r f s < r ∧ c (lgS c r f s) = true)
  | 0, s => .inl rfl
  | f + 1, s => by
    rw [lgS]
    split
    · rename_i h
      split
      · rename_i hc; exact .inr ⟨Nat.le_refl _, h, hc⟩
      · rcases lgS_is c r f (s + 1) with e | ⟨h1, h2, h3⟩
        · exact .inl e
        · exact .inr ⟨by omega, h2, h3⟩
    · exact .inl rfl
theorem lgF_sub (T : Nat → Int) {r : Nat} (hr : 0 < r) : 0 < lgF T r ∧ lgF T r ≤ r ∧ Sub (lgF T r) r := by
  rcases lgS_is (cG T r) r r 1 with e | ⟨h1, h2, h3⟩
  · have e' : lgF T r = r := e
    rw [e']; exact ⟨hr, Nat.le_refl _, sub_refl r⟩
  · refine ⟨by unfold lgF; omega, by unfold lgF; omega, ?_⟩
    simp only [cG, Bool.and_eq_true, decide_eq_true_eq] at h3
    exact h3.1
theorem lgS_congr {c c' : Nat → Bool} (r : Nat) (h : ∀ s, s < r → c s = c' s) : ∀ f s, lgS c r f s = lgS c' r f s
  | 0, s => rfl
  | f + 1, s => by
    rw [lgS, lgS]
    split
    · rename_i hs
      rw [h s hs, lgS_congr r h f (s + 1)]
    · rfl
theorem lgF_congr {T T' : Nat → Int} (r : Nat) (h : ∀ s, Sub s r → T s = T' s) : lgF T r = lgF T' r := by
  refine lgS_congr r (fun s _ => ?_) r 1
  unfold cG
  by_cases hs : s &&& r = s
  · rw [h s hs, h r (sub_refl r), h (r - s) (sub_diff hs).1]
  · simp [hs]
theorem andnot_nat0 : ∀ (n s r : Nat), s < 2 ^ n → r < 2 ^ n → ((s &&& (2 ^ n - 1 - r)) = 0 ↔ Sub s r)
  | 0, s, r, hs, hr => by simp at hs hr; subst hs hr; simp [Sub]
  | n + 1, s, r, hs, hr => by
    rw [Nat.pow_succ] at hs hr ⊢
    have e1 : (2 ^ n * 2 - 1 - r) / 2 = 2 ^ n - 1 - r / 2 := by omega
    have e2 : (2 ^ n * 2 - 1 - r) % 2 = 1 - r % 2 := by omega
    obtain ⟨h3, h4⟩ := and_half s (2 ^ n * 2 - 1 - r)
    have ih := andnot_nat0 n (s / 2) (r / 2) (by omega) (by omega)
    rw [e1] at h3
    rw [e2] at h4
    rw [sub_half, ← ih, ← h3]
    generalize s &&& (2 ^ n * 2 - 1 - r) = m at *
    rcases Nat.mod_two_eq_zero_or_one s with e | e <;> rcases Nat.mod_two_eq_zero_or_one r with e' | e' <;> rw [e, e'] at h4 <;> simp at h4 <;> omega
theorem andnot_test (s r : Nat) (hs : s < 4611686018427387904) (hr : r < 4611686018427387904) : ∃ m : Nat, bits .andNot .i64 (s : Int) (r : Int) = (m : Int) ∧ (m = 0 ↔ Sub s r) := by
  refine ⟨s &&& (2 ^ 64 - 1 - r), ?_, andnot_nat0 64 s r (by omega) (by omega)⟩
  have hle : s &&& (2 ^ 64 - 1 - r) ≤ s := Nat.and_le_left
  show IntKind.i64.wrap ((BitVec.ofInt 64 (s : Int) &&& ~~~ BitVec.ofInt 64 (r : Int)).toNat : Int) = _
  rw [BitVec.toNat_and, BitVec.toNat_not, bv_nat s hs, bv_nat r hr, IntKind.wrap_i64]
  generalize s &&& (2 ^ 64 - 1 - r) = m at *
  omega
theorem cG_no1 {T : Nat → Int} {r s : Nat} (h : ¬ Sub s r) : cG T r s = false := by
  have : ¬ (s &&& r = s) := h
  simp [cG, this]
theorem cG_no2 {T : Nat → Int} {r s : Nat} (h : ¬ T s = 1) : cG T r s = false := by simp [cG, h]
theorem cG_no3 {T : Nat → Int} {r s : Nat} (h : ¬ T (r - s) = T r - 1) : cG T r s = false := by simp [cG, h]
theorem cG_yes {T : Nat → Int} {r s : Nat} (h1 : Sub s r) (h2 : T s = 1) (h3 : T (r - s) = T r - 1) : cG T r s = true := by
  have : s &&& r = s := h1
  simp [cG, this, h2, h3]
set_option maxRecDepth 20000 in
set_option maxHeartbeats 8000000 in
theorem leastGroup_any (A : Option Addr) (c N : Nat) (T : List Int) (r : Nat) (w : World) (B : Nat) (h : IS w B A T) (hl : T.length = N) (hN : N ≤ 128) (hr : r < N) (hr0 : 0 < r) (hb : TBnd T) :
    Calls Try.prog 51 #[.slice A N c, .int .i64 (r : Int)] w fun e w' => e = .returned (.int .i64 (lgF (at0 T) r : Int)) ∧ ∃ q, w' = w.drewN q := by
  have HL := Lib.hid hl
  have HB := Lib.hid hb
  clear hl hb
  go_enter Try.func51, Try.ntmps51
  go_wp2
  go_loopw [5] (fun i wr => ∃ (s f : Nat), 1 ≤ s ∧ s ≤ r ∧ i = .int .i64 (s : Int) ∧ r ≤ s + f ∧ Hid (lgF (at0 T) r = lgS (cG (at0 T) r) r f s) ∧ ∃ q, wr = w.drewN q) (fun i _ => r - (intOf i).toNat)
  case atStart => exact ⟨1, r, by omega, by omega, rfl, by omega, Lib.hid rfl, 0, rfl⟩
  case round =>
    obtain ⟨s, f, hs1, hsr, rfl, hf, HF, q, rfl⟩ := hrel
    by_cases hlt : s < r
    · obtain ⟨b, off, rfl, hbl, hc⟩ := IS.at0_ h (by rw [HL.out]; omega)
      have e1 := hc s (by rw [HL.out]; omega)
      have e2 := hc r (by rw [HL.out]; omega)
      obtain ⟨m, hm, hmz⟩ := andnot_test s r (by omega) (by omega)
      have HMI := Lib.hid (fun hh => lgS_miss (cG (at0 T) r) r f s hlt hf hh)
      have hsN : s < N := by omega
      have hb1 := HB.out s
      have hb2 := HB.out r
      by_cases hsub : Sub s r
      · have hm0 : m = 0 := hmz.2 hsub
        subst hm0
        have e3 := hc (r - s) (by rw [HL.out]; omega)
        have hnot := andnot_i64 r s (by omega) hsub
        have hb3 := HB.out (r - s)
        have hrs : r - s < N := by omega
        have HC1 := Lib.hid (fun hh : ¬ at0 T s = 1 => cG_no2 (r := r) hh)
        have HC2 := Lib.hid (fun hh : ¬ at0 T (r - s) = at0 T r - 1 => cG_no3 hh)
        have HC3 := Lib.hid (fun h2 h3 => lgS_hit (cG (at0 T) r) r f s hlt hf (cG_yes hsub h2 h3))
        clear hc hmz
        generalize at0 T s = x at *
        generalize at0 T (r - s) = y at *
        generalize at0 T r = z at *
        have hwz : IntKind.i64.wrap (z - 1) = z - 1 := by rw [IntKind.wrap_i64]; omega
        by_cases hx : x = 1
        · have hxb : (x == 1) = true := by rw [hx]; rfl
          by_cases hy : y = z - 1
          · have hyb : (y == z - 1) = true := by rw [hy]; exact beq_self_eq_true _
            have HR := Lib.hid (HC3.out hx hy)
            clear hx hy
            go_wp2_with fail
            go_quiet (fail)
            go_wp2
            go_ret
            first | exact ⟨ret_int (by rw [HF.out, HR.out]), _, rfl⟩ | exact ⟨ret_int (by rw [HF.out, HR.out]), _, World.drewN_drewN _ _ _⟩
          · have hyb : (y == z - 1) = false := by rw [beq_eq_false_iff_ne]; exact hy
            have HR := Lib.hid (HMI.out (HC2.out hy))
            clear hx hy
            go_wp2_with fail
            go_quiet (fail)
            go_wp2
            go_roundw
            case rel => first | exact ⟨s + 1, f - 1, by omega, by omega, by go_num, by omega, Lib.hid (by rw [HF.out, HR.out]), _, rfl⟩ | exact ⟨s + 1, f - 1, by omega, by omega, by go_num, by omega, Lib.hid (by rw [HF.out, HR.out]), _, World.drewN_drewN _ _ _⟩
            case measure => (simp [intOf]) <;> omega
        · have hxb : (x == 1) = false := by rw [beq_eq_false_iff_ne]; exact hx
          have HR := Lib.hid (HMI.out (HC1.out hx))
          clear hx
          go_wp2_with fail
          go_quiet (fail)
          go_wp2
          go_roundw
          case rel => first | exact ⟨s + 1, f - 1, by omega, by omega, by go_num, by omega, Lib.hid (by rw [HF.out, HR.out]), _, rfl⟩ | exact ⟨s + 1, f - 1, by omega, by omega, by go_num, by omega, Lib.hid (by rw [HF.out, HR.out]), _, World.drewN_drewN _ _ _⟩
          case measure => (simp [intOf]) <;> omega
      · have hm0 : ¬ m = 0 := fun e => hsub (hmz.1 e)
        have hmb : ((m : Int) == 0) = false := by rw [beq_eq_false_iff_ne]; omega
        have HR := Lib.hid (HMI.out (cG_no1 hsub))
        clear hc hmz hsub
        generalize at0 T s = x at *
        generalize at0 T r = z at *
        go_wp2_with fail
        go_quiet (fail)
        go_wp2
        go_roundw
        case rel => first | exact ⟨s + 1, f - 1, by omega, by omega, by go_num, by omega, Lib.hid (by rw [HF.out, HR.out]), _, rfl⟩ | exact ⟨s + 1, f - 1, by omega, by omega, by go_num, by omega, Lib.hid (by rw [HF.out, HR.out]), _, World.drewN_drewN _ _ _⟩
        case measure => (simp [intOf]) <;> omega
    · obtain rfl : s = r := by omega
      have HR := Lib.hid (lgS_end (cG (at0 T) s) s f s (by omega))
      go_wp2
      go_ret
      exact ⟨ret_int (by rw [HF.out, HR.out]), _, rfl⟩
end Go.Proofs.Ytgndokhehooplaa
