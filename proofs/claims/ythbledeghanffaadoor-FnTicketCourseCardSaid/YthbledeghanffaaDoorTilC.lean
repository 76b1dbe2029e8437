/- FnTicketCourse: the law's walk. -/
import Derived.Test.YthbledeghanffaaDoorDrawTs
import Derived.Test.YthbledeghanffaaDoorCrsP
set_option linter.unusedVariables false
set_option linter.unusedSimpArgs false
namespace Go.Proofs.YthbledeghanffaaDoor
open Go.ChangeShapes Go.WideShapes Go.ChangeAt Go.RowKit

set_option maxRecDepth 20000 in
set_option maxHeartbeats 8000000 in
theorem walk_fnTicketCourse (w : World) (A : Option Addr) (c : Nat) (xs : List Int) (h : RV w w.heap.size A (bts xs)) (hc : xs.length ≤ c) (hm : c ≤ maxLen) (hb : ∀ x ∈ xs, 0 ≤ x ∧ x ≤ 255) :
    Calls Tryd.prog 5 #[.slice A xs.length c] w fun e w' => e = .returned (.bool true) ∧ Below w.heap.size w w' := by
  unfold maxLen at hm
  by_cases hl : xs.length ≤ 1048576
  · have HD := Lib.hid (drawTicketCourse_any A c xs w h hc hl hb)
    clear hb h
    have hd8 : decide ((1048576 : Int) < (xs.length : Int)) = false := decide_eq_false (by omega)
    go_enter Tryd.func5, Tryd.ntmps5
    go_wp2_with fail
    refine HD.out.mono ?_
    rintro e w1 ⟨v, os, rfl, o, hol, bel⟩
    obtain ⟨A1, c1, rfl, hr1, -⟩ := own_form o
    clear o HD
    go_wp2_with fail
    refine (impl_ticketCourse A1 c1 os _ hr1 (by omega)).mono ?_
    rintro e w2 ⟨rfl, b2⟩
    have hr1 := RV.step hr1 b2
    replace bel := below_step bel b2
    go_wp2_with fail
    refine (spec_ticketCourse A1 c1 os _ hr1 (by omega)).mono ?_
    rintro e w3 ⟨rfl, b3⟩
    have hr1 := RV.step hr1 b3
    replace bel := below_step bel b3
    rcases course_plain os with hx | ⟨h0, ht, hex, hlo, hhi⟩
    · have HN := Lib.hid (done_neg hx)
      rw [hx]
      clear hx
      go_wp2_with fail
      refine (impl_ticketDone A1 c1 os _ hr1 (by omega)).mono ?_
      rintro e w4 ⟨rfl, b4⟩
      have hr1 := RV.step hr1 b4
      replace bel := below_step bel b4
      rw [HN.out]
      go_wp2_with fail
      refine (impl_ticketValid A1 c1 os _ hr1 (by omega)).mono ?_
      rintro e w5 ⟨rfl, b5⟩
      replace bel := below_step bel b5
      have hbb : (ticketB os == ticketB os) = true := by simp
      go_wp2_with fail
      refine (alive_any _).mono ?_
      rintro e w6 ⟨rfl, b6⟩
      go_wp2
      go_ret
      exact ⟨rfl, below_step bel b6⟩
    · have HE := Lib.hid hex
      have HL := Lib.hid hlo
      have HH := Lib.hid hhi
      clear hex hlo hhi ht
      generalize courseF os = co at *
      have hz1 : decide (co < 0) = false := decide_eq_false (by omega)
      go_wp2
      go_loopw [5, 6] (fun s i wr => ∃ (k : Nat) (b : Bool), k ≤ os.length ∧ s = .bool b ∧ i = .int .i64 k ∧ Hid (∀ j (hj : j < os.length), j < k → os[j].1 = co → os[j].2 < 3 → b = true) ∧ Below w3.heap.size w3 wr) (fun _ i _ => os.length - (intOf i).toNat)
      case atStart => exact ⟨0, false, Nat.zero_le _, rfl, rfl, fun j hj h0 => by omega, Below.refl _ _⟩
      case round =>
        obtain ⟨k, s, hk, rfl, rfl, HS, hW⟩ := hrel
        by_cases hlt : k < os.length
        · obtain ⟨b, off, rfl, hbl, hcc⟩ := SO.at_ (RV.below hr1 hW) (by omega)
          obtain ⟨e1, e2⟩ := hcc k hlt
          have hmem := List.getElem_mem hlt
          have hlo := HL.out _ hmem
          have hhi := HH.out _ hmem
          have HS2 : Hid (∀ t : Bool, (os[k].1 = co → os[k].2 < 3 → t = true) → (s = true → t = true) → ∀ j (hj : j < os.length), j < k + 1 → os[j].1 = co → os[j].2 < 3 → t = true) := by
            intro t h1 h2 j hj hjk h3 h4
            rcases Nat.lt_or_ge j k with h5 | h5
            · exact h2 (HS.out j hj h5 h3 h4)
            · obtain rfl : j = k := by omega
              exact h1 h3 h4
          clear hcc HS hmem
          generalize os[k] = o at *
          obtain ⟨p, q⟩ := o
          dsimp only at e1 e2 hlo hhi HS2
          have hs := hW.size
          rcases (show (p < co ∧ 3 ≤ q) ∨ (p = co ∧ q < 3) ∨ (p = co ∧ 3 ≤ q) ∨ (co < p ∧ q < 1) ∨ (co < p ∧ 3 < q) by omega) with ⟨h1, h2⟩ | ⟨h1, h2⟩ | ⟨h1, h2⟩ | ⟨h1, h2⟩ | ⟨h1, h2⟩
          · have d1 : decide (p < co) = true := decide_eq_true h1
            have d2 : (p == co) = false := by rw [beq_eq_false_iff_ne]; omega
            have d3 : decide (q < 3) = false := decide_eq_false (by omega)
            have d4 : decide (co < p) = false := decide_eq_false (by omega)
            clear hlo hhi
            cases s <;> (go_wp2; go_roundw; (case rel => exact ⟨k + 1, _, by omega, rfl, by go_num, HS2.out _ (by omega) (fun h => by first | exact h | cases h), hW⟩); (case measure => simp [intOf]; omega))
          · have d1 : decide (p < co) = false := decide_eq_false (by omega)
            have d2 : (p == co) = true := by rw [beq_iff_eq]; exact h1
            have d3 : decide (q < 3) = true := decide_eq_true h2
            have d4 : decide (co < p) = false := decide_eq_false (by omega)
            clear hlo hhi
            cases s <;> (go_wp2; go_roundw; (case rel => exact ⟨k + 1, true, by omega, rfl, by go_num, HS2.out _ (fun _ _ => rfl) (fun _ => rfl), hW⟩); (case measure => simp [intOf]; omega))
          · have d1 : decide (p < co) = false := decide_eq_false (by omega)
            have d2 : (p == co) = true := by rw [beq_iff_eq]; exact h1
            have d3 : decide (q < 3) = false := decide_eq_false (by omega)
            have d4 : decide (co < p) = false := decide_eq_false (by omega)
            clear hlo hhi
            cases s <;> (go_wp2; go_roundw; (case rel => exact ⟨k + 1, _, by omega, rfl, by go_num, HS2.out _ (by omega) (fun h => by first | exact h | cases h), hW⟩); (case measure => simp [intOf]; omega))
          · have d1 : decide (p < co) = false := decide_eq_false (by omega)
            have d2 : (p == co) = false := by rw [beq_eq_false_iff_ne]; omega
            have d4 : decide (co < p) = true := decide_eq_true h1
            have d5 : decide (1 ≤ q) = false := decide_eq_false (by omega)
            have d6 : decide (0 < q) = false := decide_eq_false (by omega)
            clear hlo hhi
            cases s <;> (go_wp2; go_roundw; (case rel => exact ⟨k + 1, _, by omega, rfl, by go_num, HS2.out _ (by omega) (fun h => by first | exact h | cases h), hW⟩); (case measure => simp [intOf]; omega))
          · have d1 : decide (p < co) = false := decide_eq_false (by omega)
            have d2 : (p == co) = false := by rw [beq_eq_false_iff_ne]; omega
            have d4 : decide (co < p) = true := decide_eq_true h1
            have d5 : decide (1 ≤ q) = true := decide_eq_true (by omega)
            have d6 : decide (0 < q) = true := decide_eq_true (by omega)
            have d7 : decide (q ≤ 3) = false := decide_eq_false (by omega)
            clear hlo hhi
            cases s <;> (go_wp2; go_roundw; (case rel => exact ⟨k + 1, _, by omega, rfl, by go_num, HS2.out _ (by omega) (fun h => by first | exact h | cases h), hW⟩); (case measure => simp [intOf]; omega))
        · obtain rfl : k = os.length := by omega
          have hst : s = true := by
            obtain ⟨o, ho, h1, h2⟩ := HE.out
            obtain ⟨j, hj, rfl⟩ := List.getElem_of_mem ho
            exact HS.out j hj hj h1 h2
          subst hst
          go_wp2
          go_ret
          exact ⟨rfl, below_step bel hW⟩
  · go_enter Tryd.func5, Tryd.ntmps5
    go_wp2
    go_ret
    exact ⟨rfl, Below.refl _ _⟩
end Go.Proofs.YthbledeghanffaaDoor
