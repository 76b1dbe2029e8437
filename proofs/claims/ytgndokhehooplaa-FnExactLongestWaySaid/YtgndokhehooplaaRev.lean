/- slices.Reverse at numbers: its contract. -/
import Derived.Test.YtgndokhehooplaaInts
import Derived.Test.YtgndokhehooplaaAt
import Derived.BigRegion
set_option linter.unusedVariables false
set_option linter.unusedSimpArgs false
namespace Go.Proofs.Ytgndokhehooplaa
open Go.ChangeShapes Go.WideShapes Go.ChangeAt Go.RowKit

theorem ext_at0 {a b : List Int} (hl : a.length = b.length) (h : ∀ m, m < a.length → at0 a m = at0 b m) : a = b := by
  apply List.ext_getElem hl
  intro m h1 h2
  have := h m h1
  rwa [← at0_eq h1, ← at0_eq h2] at this
/-- The list with its first and its last k elements exchanged. -/
def rv (xs : List Int) (k : Nat) : List Int := (List.range xs.length).map fun m => if m < k ∨ xs.length - k ≤ m then at0 xs (xs.length - 1 - m) else at0 xs m
theorem rv_length (xs : List Int) (k : Nat) : (rv xs k).length = xs.length := by simp [rv]
theorem rv_at (xs : List Int) (k m : Nat) (h : m < xs.length) : at0 (rv xs k) m = if m < k ∨ xs.length - k ≤ m then at0 xs (xs.length - 1 - m) else at0 xs m := by
  rw [← at0_eq (by rw [rv_length]; exact h)]; simp [rv]
theorem rv_zero (xs : List Int) : rv xs 0 = xs := by
  refine ext_at0 (rv_length _ _) fun m hm => ?_
  rw [rv_length] at hm
  rw [rv_at _ _ _ hm, if_neg (by omega)]
theorem rv_step (xs : List Int) (k j : Nat) (hj : xs.length = k + 1 + j) (h : k < j) : ((rv xs k).set k (at0 (rv xs k) j)).set j (at0 (rv xs k) k) = rv xs (k + 1) := by
  refine ext_at0 (by simp [rv_length]) fun m hm => ?_
  rw [List.length_set, List.length_set, rv_length] at hm
  rw [rv_at xs (k + 1) m hm]
  by_cases e1 : j = m
  · subst e1
    rw [at0_set_eq _ _ _ (by rw [List.length_set, rv_length]; omega), rv_at xs k k (by omega), if_neg (by omega), if_pos (by omega)]
    congr 1; omega
  · rw [at0_set_ne _ _ _ _ e1]
    by_cases e2 : k = m
    · subst e2
      rw [at0_set_eq _ _ _ (by rw [rv_length]; omega), rv_at xs k j (by omega), if_neg (by omega), if_pos (by omega)]
      congr 1; omega
    · rw [at0_set_ne _ _ _ _ e2, rv_at xs k m hm]
      by_cases e3 : m < k ∨ xs.length - k ≤ m
      · rw [if_pos e3, if_pos (by omega)]
      · rw [if_neg e3, if_neg (by omega)]
theorem rv_end (xs : List Int) (k : Nat) (h : xs.length ≤ k + 1 + k) : rv xs k = xs.reverse := by
  refine ext_at0 (by simp [rv_length]) fun m hm => ?_
  rw [rv_length] at hm
  have e : at0 xs.reverse m = at0 xs (xs.length - 1 - m) := by
    rw [← at0_eq (show m < xs.reverse.length by simpa using hm), ← at0_eq (show xs.length - 1 - m < xs.length by omega)]; simp
  rw [rv_at xs k m hm, e]
  by_cases e3 : m < k ∨ xs.length - k ≤ m
  · rw [if_pos e3]
  · rw [if_neg e3]; congr 1; omega
theorem own_likeV {w w' : World} {base n size : Nat} {e : TypeId} {v : Value} {cs : List Value} (h : w.ownsRow base e size v n cs) (hh : w'.heap = w.heap) : w'.ownsRow base e size v n cs := by
  refine ⟨h.1, ?_⟩
  rcases h.2 with h0 | ⟨g, cap, cur, hv, hb, hg, r⟩
  · exact .inl h0
  · exact .inr ⟨g, cap, cur, hv, hb, by rw [hh]; exact hg, r⟩
set_option maxRecDepth 20000 in
set_option maxHeartbeats 8000000 in
theorem reverse_any (g cap base : Nat) (xs : List Int) (w : World) (h : w.ownsRow base 3 1 (.slice (some ⟨g, 0, none⟩) xs.length cap) xs.length (ints xs)) (hb : base ≤ g) (hp : 0 < xs.length) (hl : xs.length ≤ 1048576) :
    Calls Try.prog 63 #[.slice (some ⟨g, 0, none⟩) xs.length cap] w fun e w' => e = .returned (.tuple #[]) ∧ w'.ownsRow base 3 1 (.slice (some ⟨g, 0, none⟩) xs.length cap) xs.length (ints xs.reverse) ∧ Below base w w' := by
  go_enter Try.func63, Try.ntmps63
  go_wp2
  go_loopw [2, 3] (fun i j wr => ∃ k : Nat, k ≤ xs.length ∧ i = .int .i64 k ∧ j = .int .i64 ((xs.length : Int) - 1 - k) ∧ wr.ownsRow base 3 1 (.slice (some ⟨g, 0, none⟩) xs.length cap) xs.length (ints (rv xs k)) ∧ Below base w wr) (fun i _ _ => xs.length - (intOf i).toNat)
  case atStart => exact ⟨0, Nat.zero_le _, rfl, by simp, by rw [rv_zero]; exact h, Below.refl _ _⟩
  case round =>
    obtain ⟨k, hk, rfl, rfl, hO, hW⟩ := hrel
    clear h
    by_cases hlt : (k : Int) < (xs.length : Int) - 1 - k
    · obtain ⟨j, hj⟩ : ∃ j : Nat, (xs.length : Int) - 1 - k = j := ⟨xs.length - 1 - k, by omega⟩
      have hkj : k < j := by omega
      have hne : k ≠ j := by omega
      have hjl : j < xs.length := by omega
      have hkl : k < xs.length := by omega
      have hn : xs.length = k + 1 + j := by omega
      have HST := Lib.hid (rv_step xs k j hn hkj)
      have HNX := Lib.hid (show (xs.length : Int) - 1 - ((k + 1 : Nat) : Int) = (j : Int) - 1 by omega)
      obtain ⟨hx, hfx⟩ := row_at0 hO k (by rw [rv_length]; exact hkl)
      obtain ⟨hy, hfy⟩ := row_at0 hO j (by rw [rv_length]; exact hjl)
      have hO1 := row_set hO k (at0 (rv xs k) j)
      have hO2 := row_set hO j (at0 (rv xs k) k)
      obtain ⟨hx1, hfx1⟩ := row_at0 hO1 j (by rw [List.length_set, rv_length]; exact hjl)
      obtain ⟨hy1, hfy1⟩ := row_at0 hO2 k (by rw [List.length_set, rv_length]; exact hkl)
      rw [at0_set_ne _ _ _ _ hne] at hx1
      rw [at0_set_ne _ _ _ _ (Ne.symm hne)] at hy1
      have HE1 := Lib.hid (row_set hO1 j (at0 (rv xs k) k))
      have HE2 := Lib.hid (row_set hO2 k (at0 (rv xs k) j))
      have HCM := Lib.hid (show ((rv xs k).set k (at0 (rv xs k) j)).set j (at0 (rv xs k) k) = ((rv xs k).set j (at0 (rv xs k) k)).set k (at0 (rv xs k) j) from List.set_comm _ _ hne)
      rw [hj]
      clear hO hO1 hO2 hn hj
      generalize at0 (rv xs k) k = x at *
      generalize at0 (rv xs k) j = y at *
      go_wp2
      go_region
      all_goals
        go_wp2
        go_roundw
        case rel => exact ⟨k + 1, by omega, by go_num, by rw [HNX.out], by first | exact own_likeV (by rw [← HST.out]; exact HE1.out) rfl | exact own_likeV (by rw [← HST.out, HCM.out]; exact HE2.out) rfl, by first | exact ((hW.setCell (p := ⟨g, k, none⟩) hb (.int .i64 y)).setCell (p := ⟨g, j, none⟩) hb (.int .i64 x)).drew | exact ((hW.setCell (p := ⟨g, j, none⟩) hb (.int .i64 x)).setCell (p := ⟨g, k, none⟩) hb (.int .i64 y)).drew⟩
        case measure => (simp [intOf]) <;> omega
    · have HE := Lib.hid (rv_end xs k (by omega))
      have hd : decide ((k : Int) < (xs.length : Int) - 1 - k) = false := decide_eq_false hlt
      have HO := Lib.hid hO
      clear hO
      go_wp2
      go_end0
      exact ⟨rfl, by rw [← HE.out]; exact HO.out, hW⟩
end Go.Proofs.Ytgndokhehooplaa
