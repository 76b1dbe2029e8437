/- FnTicketCourse: the law's walk. -/
import Derived.Test.YthbledeghanffaaDoorDrawTs
import Derived.Test.YthbledeghanffaaDoorTick2
namespace Go.Proofs.YthbledeghanffaaDoor
open Go.ChangeShapes Go.WideShapes Go.ChangeAt Go.RowKit

theorem crs_from (os : List Ord) : ∀ a : Int, 0 ≤ a → (∀ o ∈ os, 0 ≤ o.1) →
    0 ≤ os.foldl crsStep a ∧ os.foldl crsStep a ≤ a ∧ (os.foldl crsStep a = a ∨ ∃ o ∈ os, o.1 = os.foldl crsStep a ∧ o.2 < 3) ∧ ∀ o ∈ os, o.2 < 3 → os.foldl crsStep a ≤ o.1 := by
  induction os with
  | nil => intro a ha _; exact ⟨ha, Int.le_refl _, .inl rfl, fun o ho => by cases ho⟩
  | cons o t ih =>
    intro a ha h
    have h0 := h o (List.mem_cons_self ..)
    rw [List.foldl_cons]
    by_cases hc : o.2 < 3 ∧ (a < 0 ∨ o.1 < a)
    · have e : crsStep a o = o.1 := by unfold crsStep; rw [if_pos hc]
      rw [e]
      obtain ⟨h1, h2, h3, h4⟩ := ih o.1 h0 (fun x hx => h x (List.mem_cons_of_mem _ hx))
      refine ⟨h1, by omega, .inr ?_, ?_⟩
      · rcases h3 with h3 | ⟨x, hx, h5, h6⟩
        · exact ⟨o, List.mem_cons_self .., h3.symm, hc.1⟩
        · exact ⟨x, List.mem_cons_of_mem _ hx, h5, h6⟩
      · intro x hx hx3
        rcases List.mem_cons.1 hx with rfl | hx
        · exact h2
        · exact h4 x hx hx3
    · have e : crsStep a o = a := by unfold crsStep; rw [if_neg hc]
      rw [e]
      obtain ⟨h1, h2, h3, h4⟩ := ih a ha (fun x hx => h x (List.mem_cons_of_mem _ hx))
      refine ⟨h1, h2, ?_, ?_⟩
      · rcases h3 with h3 | ⟨x, hx, h5, h6⟩
        · exact .inl h3
        · exact .inr ⟨x, List.mem_cons_of_mem _ hx, h5, h6⟩
      · intro x hx hx3
        rcases List.mem_cons.1 hx with rfl | hx
        · omega
        · exact h4 x hx hx3
theorem crs_spec (os : List Ord) (h : ∀ o ∈ os, 0 ≤ o.1) :
    (crs os = -1 ∧ ∀ o ∈ os, ¬ o.2 < 3) ∨ (0 ≤ crs os ∧ (∃ o ∈ os, o.1 = crs os ∧ o.2 < 3) ∧ ∀ o ∈ os, o.2 < 3 → crs os ≤ o.1) := by
  unfold crs
  induction os with
  | nil => exact .inl ⟨rfl, fun o ho => by cases ho⟩
  | cons o t ih =>
    have h0 := h o (List.mem_cons_self ..)
    rw [List.foldl_cons]
    by_cases hc : o.2 < 3
    · have e : crsStep (-1) o = o.1 := by unfold crsStep; rw [if_pos ⟨hc, .inl (by omega)⟩]
      rw [e]
      obtain ⟨h1, h2, h3, h4⟩ := crs_from t o.1 h0 (fun x hx => h x (List.mem_cons_of_mem _ hx))
      refine .inr ⟨h1, ?_, ?_⟩
      · rcases h3 with h3 | ⟨x, hx, h5, h6⟩
        · exact ⟨o, List.mem_cons_self .., h3.symm, hc⟩
        · exact ⟨x, List.mem_cons_of_mem _ hx, h5, h6⟩
      · intro x hx hx3
        rcases List.mem_cons.1 hx with rfl | hx
        · exact h2
        · exact h4 x hx hx3
    · have e : crsStep (-1) o = -1 := by unfold crsStep; rw [if_neg (fun hx => hc hx.1)]
      rw [e]
      rcases ih (fun x hx => h x (List.mem_cons_of_mem _ hx)) with ⟨h1, h2⟩ | ⟨h1, ⟨x, hx, h5, h6⟩, h4⟩
      · refine .inl ⟨h1, fun x hx => ?_⟩
        rcases List.mem_cons.1 hx with rfl | hx
        · exact hc
        · exact h2 x hx
      · refine .inr ⟨h1, ⟨x, List.mem_cons_of_mem _ hx, h5, h6⟩, fun x hx hx3 => ?_⟩
        rcases List.mem_cons.1 hx with rfl | hx
        · exact absurd hx3 hc
        · exact h4 x hx hx3
theorem course_plain (os : List Ord) : courseF os = -1 ∨
    (0 ≤ courseF os ∧ ticketB os = true ∧ (∃ o ∈ os, o.1 = courseF os ∧ o.2 < 3) ∧ (∀ o ∈ os, o.1 < courseF os → 3 ≤ o.2) ∧ ∀ o ∈ os, courseF os < o.1 → o.2 < 1 ∨ 3 < o.2) := by
  cases ht : ticketB os
  · exact .inl (courseF_no ht)
  · rw [courseF_yes ht]
    have ht0 := ht
    unfold ticketB at ht
    rw [Bool.and_eq_true, List.all_eq_true] at ht
    have hall := ht.1
    have hr : ∀ o ∈ os, 0 ≤ o.1 := fun o ho => by
      have := hall o ho
      simp [tOk, inB] at this
      exact this.1.1
    rcases crs_spec os hr with ⟨h1, -⟩ | ⟨h1, ⟨x, hx, h2, h3⟩, h4⟩
    · exact .inl h1
    · refine .inr ⟨h1, rfl, ⟨x, hx, h2, h3⟩, fun o ho hlt => ?_, fun o ho hgt => ?_⟩
      · by_cases h5 : o.2 < 3
        · have := h4 o ho h5; omega
        · omega
      · have h6 := hall o ho
        simp only [tOk, Bool.and_eq_true, Bool.or_eq_true, Bool.not_eq_true'] at h6
        rcases h6.2.2 with h7 | h7
        · simp [inB] at h7; omega
        · unfold readyB at h7
          have := List.all_eq_true.1 h7 x hx
          simp [rdP] at this
          omega
theorem done_neg {os : List Ord} (h : courseF os = -1) : doneB os = ticketB os := by
  simp [doneB, h]
set_option maxRecDepth 20000 in
set_option maxHeartbeats 8000000 in
theorem walk_fnTicketCourse (w : World) (A : Option Addr) (c : Nat) (xs : List Int) (h : RV w w.heap.size A (bts xs)) (hc : xs.length ≤ c) (hm : c ≤ maxLen) (hb : ∀ x ∈ xs, 0 ≤ x ∧ x ≤ 255) :
    Calls Tryd.prog 5 #[.slice A xs.length c] w fun e w' => e = .returned (.bool true) ∧ Below w.heap.size w w' := by
  unfold maxLen at hm
  by_cases hl : xs.length ≤ 1048576
  · have HD := Lib.hid (drawTicketCourse_any A c xs w h hc hl hb)
    clear hb h
    have hd8 : decide ((1048576 : Int) < (xs.length : Int)) = false := decide_eq_false (by omega)
    go_enter Tryd.func5, Tryd.ntmps5
    go_wp2_with fail
    refine HD.out.mono ?_
    rintro e w1 ⟨v, os, rfl, o, hol, bel⟩
    obtain ⟨A1, c1, rfl, hr1, -⟩ := own_form o
    clear o HD
    go_wp2_with fail
    refine (impl_ticketCourse A1 c1 os _ hr1 (by omega)).mono ?_
    rintro e w2 ⟨rfl, b2⟩
    have hr1 := RV.step hr1 b2
    replace bel := below_step bel b2
    go_wp2_with fail
    refine (spec_ticketCourse A1 c1 os _ hr1 (by omega)).mono ?_
    rintro e w3 ⟨rfl, b3⟩
    have hr1 := RV.step hr1 b3
    replace bel := below_step bel b3
    rcases course_plain os with hx | ⟨h0, ht, hex, hlo, hhi⟩
    · have HN := Lib.hid (done_neg hx)
      rw [hx]
      clear hx
      go_wp2_with fail
      refine (impl_ticketDone A1 c1 os _ hr1 (by omega)).mono ?_
      rintro e w4 ⟨rfl, b4⟩
      have hr1 := RV.step hr1 b4
      replace bel := below_step bel b4
      rw [HN.out]
      go_wp2_with fail
      refine (impl_ticketValid A1 c1 os _ hr1 (by omega)).mono ?_
      rintro e w5 ⟨rfl, b5⟩
      replace bel := below_step bel b5
      have hbb : (ticketB os == ticketB os) = true := by simp
      go_wp2_with fail
      refine (alive_any _).mono ?_
      rintro e w6 ⟨rfl, b6⟩
      go_wp2
      go_ret
      exact ⟨rfl, below_step bel b6⟩
    · have HE := Lib.hid hex
      have HL := Lib.hid hlo
      have HH := Lib.hid hhi
      clear hex hlo hhi ht
      generalize courseF os = co at *
      have hz1 : decide (co < 0) = false := decide_eq_false (by omega)
      go_wp2
      go_loopw [5, 6] (fun s i wr => ∃ (k : Nat) (b : Bool), k ≤ os.length ∧ s = .bool b ∧ i = .int .i64 k ∧ Hid (∀ j (hj : j < os.length), j < k → os[j].1 = co → os[j].2 < 3 → b = true) ∧ Below w3.heap.size w3 wr) (fun _ i _ => os.length - (intOf i).toNat)
      case atStart => exact ⟨0, false, Nat.zero_le _, rfl, rfl, fun j hj h0 => by omega, Below.refl _ _⟩
      case round =>
        obtain ⟨k, s, hk, rfl, rfl, HS, hW⟩ := hrel
        by_cases hlt : k < os.length
        · obtain ⟨b, off, rfl, hbl, hcc⟩ := SO.at_ (RV.below hr1 hW) (by omega)
          obtain ⟨e1, e2⟩ := hcc k hlt
          have hmem := List.getElem_mem hlt
          have hlo := HL.out _ hmem
          have hhi := HH.out _ hmem
          have HS2 : Hid (∀ t : Bool, (os[k].1 = co → os[k].2 < 3 → t = true) → (s = true → t = true) → ∀ j (hj : j < os.length), j < k + 1 → os[j].1 = co → os[j].2 < 3 → t = true) := by
            intro t h1 h2 j hj hjk h3 h4
            rcases Nat.lt_or_ge j k with h5 | h5
            · exact h2 (HS.out j hj h5 h3 h4)
            · obtain rfl : j = k := by omega
              exact h1 h3 h4
          clear hcc HS hmem
          generalize os[k] = o at *
          obtain ⟨p, q⟩ := o
          dsimp only at e1 e2 hlo hhi HS2
          have hs := hW.size
          rcases (show (p < co ∧ 3 ≤ q) ∨ (p = co ∧ q < 3) ∨ (p = co ∧ 3 ≤ q) ∨ (co < p ∧ q < 1) ∨ (co < p ∧ 3 < q) by omega) with ⟨h1, h2⟩ | ⟨h1, h2⟩ | ⟨h1, h2⟩ | ⟨h1, h2⟩ | ⟨h1, h2⟩
          · have d1 : decide (p < co) = true := decide_eq_true h1
            have d2 : (p == co) = false := by rw [beq_eq_false_iff_ne]; omega
            have d3 : decide (q < 3) = false := decide_eq_false (by omega)
            have d4 : decide (co < p) = false := decide_eq_false (by omega)
            clear hlo hhi
            cases s <;> (go_wp2; go_roundw; (case rel => exact ⟨k + 1, _, by omega, rfl, by go_num, HS2.out _ (by omega) (fun h => by first | exact h | cases h), hW⟩); (case measure => simp [intOf]; omega))
          · have d1 : decide (p < co) = false := decide_eq_false (by omega)
            have d2 : (p == co) = true := by rw [beq_iff_eq]; exact h1
            have d3 : decide (q < 3) = true := decide_eq_true h2
            have d4 : decide (co < p) = false := decide_eq_false (by omega)
            clear hlo hhi
            cases s <;> (go_wp2; go_roundw; (case rel => exact ⟨k + 1, true, by omega, rfl, by go_num, HS2.out _ (fun _ _ => rfl) (fun _ => rfl), hW⟩); (case measure => simp [intOf]; omega))
          · have d1 : decide (p < co) = false := decide_eq_false (by omega)
            have d2 : (p == co) = true := by rw [beq_iff_eq]; exact h1
            have d3 : decide (q < 3) = false := decide_eq_false (by omega)
            have d4 : decide (co < p) = false := decide_eq_false (by omega)
            clear hlo hhi
            cases s <;> (go_wp2; go_roundw; (case rel => exact ⟨k + 1, _, by omega, rfl, by go_num, HS2.out _ (by omega) (fun h => by first | exact h | cases h), hW⟩); (case measure => simp [intOf]; omega))
          · have d1 : decide (p < co) = false := decide_eq_false (by omega)
            have d2 : (p == co) = false := by rw [beq_eq_false_iff_ne]; omega
            have d4 : decide (co < p) = true := decide_eq_true h1
            have d5 : decide (1 ≤ q) = false := decide_eq_false (by omega)
            have d6 : decide (0 < q) = false := decide_eq_false (by omega)
            clear hlo hhi
            cases s <;> (go_wp2; go_roundw; (case rel => exact ⟨k + 1, _, by omega, rfl, by go_num, HS2.out _ (by omega) (fun h => by first | exact h | cases h), hW⟩); (case measure => simp [intOf]; omega))
          · have d1 : decide (p < co) = false := decide_eq_false (by omega)
            have d2 : (p == co) = false := by rw [beq_eq_false_iff_ne]; omega
            have d4 : decide (co < p) = true := decide_eq_true h1
            have d5 : decide (1 ≤ q) = true := decide_eq_true (by omega)
            have d6 : decide (0 < q) = true := decide_eq_true (by omega)
            have d7 : decide (q ≤ 3) = false := decide_eq_false (by omega)
            clear hlo hhi
            cases s <;> (go_wp2; go_roundw; (case rel => exact ⟨k + 1, _, by omega, rfl, by go_num, HS2.out _ (by omega) (fun h => by first | exact h | cases h), hW⟩); (case measure => simp [intOf]; omega))
        · obtain rfl : k = os.length := by omega
          have hst : s = true := by
            obtain ⟨o, ho, h1, h2⟩ := HE.out
            obtain ⟨j, hj, rfl⟩ := List.getElem_of_mem ho
            exact HS.out j hj hj h1 h2
          subst hst
          go_wp2
          go_ret
          exact ⟨rfl, below_step bel hW⟩
  · go_enter Tryd.func5, Tryd.ntmps5
    go_wp2
    go_ret
    exact ⟨rfl, Below.refl _ _⟩
end Go.Proofs.YthbledeghanffaaDoor
