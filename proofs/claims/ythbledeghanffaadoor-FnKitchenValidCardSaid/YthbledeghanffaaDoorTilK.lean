/- FnKitchenValid: the law's walk. -/
import Derived.Test.YthbledeghanffaaDoorDrawKs
import Derived.Test.YthbledeghanffaaDoorStepP
set_option linter.unusedVariables false
set_option linter.unusedSimpArgs false
namespace Go.Proofs.YthbledeghanffaaDoor
open Go.ChangeShapes Go.WideShapes Go.ChangeAt Go.RowKit

theorem kit_tail {os : List Ord} {t : List (List Ord)} (h : kitB (os :: t) = true) : kitB t = true := by
  simp only [kitB, Bool.and_eq_true, decide_eq_true_eq, List.all_cons, List.length_cons] at h ⊢
  exact ⟨h.1.2, by omega⟩
theorem SK.tail {w : World} {B b off : Nat} {os : List Ord} {t : List (List Ord)} (h : SK w B (some ⟨b, off, none⟩) (os :: t)) : SK w B (some ⟨b, off + 1, none⟩) t := by
  intro hp
  obtain ⟨b', off', e, hb, hc⟩ := h (by simp)
  injection e with e
  injection e with e1 e2 _
  subst e1 e2
  refine ⟨b, off + 1, rfl, hb, fun j hj => ?_⟩
  obtain ⟨Aj, cj, h1, h2⟩ := hc (j + 1) (by simp; omega)
  exact ⟨Aj, cj, by rw [show off + 1 + j = off + (j + 1) by omega]; exact h1, h2⟩
set_option maxRecDepth 20000 in
set_option maxHeartbeats 8000000 in
theorem walk_fnKitchenValid (w : World) (A : Option Addr) (c : Nat) (xs : List Int) (h : RV w w.heap.size A (bts xs)) (hc : xs.length ≤ c) (hm : c ≤ maxLen) (hb : ∀ x ∈ xs, 0 ≤ x ∧ x ≤ 255) :
    Calls Tryd.prog 6 #[.slice A xs.length c] w fun e w' => e = .returned (.bool true) ∧ Below w.heap.size w w' := by
  unfold maxLen at hm
  by_cases hl : xs.length ≤ 1048576
  · have HD := Lib.hid (drawKitchenValid_any A c xs w h hc hl hb)
    clear hb h
    have hd8 : decide ((1048576 : Int) < (xs.length : Int)) = false := decide_eq_false (by omega)
    go_enter Tryd.func6, Tryd.ntmps6
    go_wp2_with fail
    refine HD.out.mono ?_
    rintro e w1 ⟨v, ks, rfl, o, hkl, bel⟩
    obtain ⟨A1, c1, rfl, hc1, -⟩ := OK.form o
    have hr1 := OK.reads o
    clear o HD
    go_wp2_with fail
    refine (impl_kitchenValid A1 c1 ks _ hr1 (by omega)).mono ?_
    rintro e w2 ⟨rfl, b2⟩
    have hr1 := SK.step hr1 b2
    replace bel := below_step bel b2
    go_wp2_with fail
    refine (spec_kitchenValid A1 c1 ks _ hr1 (by omega)).mono ?_
    rintro e w3 ⟨rfl, b3⟩
    have hr1 := SK.step hr1 b3
    replace bel := below_step bel b3
    have hbb : (kitB ks == kitB ks) = true := by simp
    cases hk : kitB ks
    · clear hk
      go_wp2_with fail
      refine (impl_kitchenValid none 0 [] _ (SK.nil _ _ _) (by simp [total])).mono ?_
      rintro e w4 ⟨rfl, b4⟩
      have h0 : kitB [] = true := rfl
      rw [h0]
      go_wp2_with fail
      refine (alive_any _).mono ?_
      rintro e w5 ⟨rfl, b5⟩
      go_wp2
      go_ret
      exact ⟨rfl, below_step (below_step bel b4) b5⟩
    · cases ks with
      | nil =>
        go_wp2_with fail
        refine (impl_kitchenValid none 0 [] _ (SK.nil _ _ _) (by simp [total])).mono ?_
        rintro e w4 ⟨rfl, b4⟩
        have h0 : kitB [] = true := rfl
        rw [h0]
        go_wp2_with fail
        refine (alive_any _).mono ?_
        rintro e w5 ⟨rfl, b5⟩
        go_wp2
        go_ret
        exact ⟨rfl, below_step (below_step bel b4) b5⟩
      | cons os t =>
        have HT := Lib.hid (kit_tail hk)
        obtain ⟨b, off, rfl, -⟩ := hr1 (by simp)
        have hr2 := SK.tail hr1
        have htl : t.length + total t ≤ 1048576 := by
          have e : total (os :: t) = os.length + total t := by simp [total]
          rw [e, List.length_cons] at hkl; omega
        have hlen : (os :: t).length = t.length + 1 := rfl
        rw [hlen]
        have hz : (((t.length + 1 : Nat) : Int) == 0) = false := by rw [beq_eq_false_iff_ne]; omega
        have hc1' : t.length + 1 ≤ c1 := hc1
        clear hk hr1
        by_cases hc2 : c1 = 1
        · subst hc2
          have ht0 : t = [] := List.eq_nil_of_length_eq_zero (by omega)
          subst ht0
          have h00 : kitB [] = true := rfl
          go_wp2_with fail
          refine (impl_kitchenValid (some ⟨b, off, none⟩) 0 [] _ (SK.nil _ _ _) (by simp [total])).mono ?_
          rw [h00]
          rintro e w4 ⟨rfl, b4⟩
          go_wp2_with fail
          refine (impl_kitchenValid none 0 [] _ (SK.nil _ _ _) (by simp [total])).mono ?_
          rintro e w5 ⟨rfl, b5⟩
          have h0 : kitB [] = true := rfl
          rw [h0]
          go_wp2_with fail
          refine (alive_any _).mono ?_
          rintro e w6 ⟨rfl, b6⟩
          go_wp2
          go_ret
          exact ⟨rfl, below_step (below_step (below_step bel b4) b5) b6⟩
        · have hc3 : 1 < c1 := by omega
          go_wp2_with fail
          have hx := impl_kitchenValid (some ⟨b, off + 1, none⟩) (c1 - 1) t _ hr2 htl
          rw [HT.out] at hx
          refine hx.mono ?_
          rintro e w4 ⟨rfl, b4⟩
          go_wp2_with fail
          refine (impl_kitchenValid none 0 [] _ (SK.nil _ _ _) (by simp [total])).mono ?_
          rintro e w5 ⟨rfl, b5⟩
          have h0 : kitB [] = true := rfl
          rw [h0]
          go_wp2_with fail
          refine (alive_any _).mono ?_
          rintro e w6 ⟨rfl, b6⟩
          go_wp2
          go_ret
          exact ⟨rfl, below_step (below_step (below_step bel b4) b5) b6⟩
  · go_enter Tryd.func6, Tryd.ntmps6
    go_wp2
    go_ret
    exact ⟨rfl, Below.refl _ _⟩
end Go.Proofs.YthbledeghanffaaDoor
