/- Plain laws of tickets: the course, what may be fired, what an event changes. -/
import Derived.Test.YthbledeghanffaaDoorTick7
set_option linter.unusedVariables false
set_option linter.unusedSimpArgs false
namespace Go.Proofs.YthbledeghanffaaDoor
open Go.ChangeShapes Go.WideShapes Go.ChangeAt Go.RowKit

theorem crs_from (os : List Ord) : ∀ a : Int, 0 ≤ a → (∀ o ∈ os, 0 ≤ o.1) →
    0 ≤ os.foldl crsStep a ∧ os.foldl crsStep a ≤ a ∧ (os.foldl crsStep a = a ∨ ∃ o ∈ os, o.1 = os.foldl crsStep a ∧ o.2 < 3) ∧ ∀ o ∈ os, o.2 < 3 → os.foldl crsStep a ≤ o.1 := by
  induction os with
  | nil => intro a ha _; exact ⟨ha, Int.le_refl _, .inl rfl, fun o ho => by cases ho⟩
  | cons o t ih =>
    intro a ha h
    have h0 := h o (List.mem_cons_self ..)
    rw [List.foldl_cons]
    by_cases hc : o.2 < 3 ∧ (a < 0 ∨ o.1 < a)
    · have e : crsStep a o = o.1 := by unfold crsStep; rw [if_pos hc]
      rw [e]
      obtain ⟨h1, h2, h3, h4⟩ := ih o.1 h0 (fun x hx => h x (List.mem_cons_of_mem _ hx))
      refine ⟨h1, by omega, .inr ?_, ?_⟩
      · rcases h3 with h3 | ⟨x, hx, h5, h6⟩
        · exact ⟨o, List.mem_cons_self .., h3.symm, hc.1⟩
        · exact ⟨x, List.mem_cons_of_mem _ hx, h5, h6⟩
      · intro x hx hx3
        rcases List.mem_cons.1 hx with rfl | hx
        · exact h2
        · exact h4 x hx hx3
    · have e : crsStep a o = a := by unfold crsStep; rw [if_neg hc]
      rw [e]
      obtain ⟨h1, h2, h3, h4⟩ := ih a ha (fun x hx => h x (List.mem_cons_of_mem _ hx))
      refine ⟨h1, h2, ?_, ?_⟩
      · rcases h3 with h3 | ⟨x, hx, h5, h6⟩
        · exact .inl h3
        · exact .inr ⟨x, List.mem_cons_of_mem _ hx, h5, h6⟩
      · intro x hx hx3
        rcases List.mem_cons.1 hx with rfl | hx
        · omega
        · exact h4 x hx hx3
theorem crs_spec (os : List Ord) (h : ∀ o ∈ os, 0 ≤ o.1) :
    (crs os = -1 ∧ ∀ o ∈ os, ¬ o.2 < 3) ∨ (0 ≤ crs os ∧ (∃ o ∈ os, o.1 = crs os ∧ o.2 < 3) ∧ ∀ o ∈ os, o.2 < 3 → crs os ≤ o.1) := by
  unfold crs
  induction os with
  | nil => exact .inl ⟨rfl, fun o ho => by cases ho⟩
  | cons o t ih =>
    have h0 := h o (List.mem_cons_self ..)
    rw [List.foldl_cons]
    by_cases hc : o.2 < 3
    · have e : crsStep (-1) o = o.1 := by unfold crsStep; rw [if_pos ⟨hc, .inl (by omega)⟩]
      rw [e]
      obtain ⟨h1, h2, h3, h4⟩ := crs_from t o.1 h0 (fun x hx => h x (List.mem_cons_of_mem _ hx))
      refine .inr ⟨h1, ?_, ?_⟩
      · rcases h3 with h3 | ⟨x, hx, h5, h6⟩
        · exact ⟨o, List.mem_cons_self .., h3.symm, hc⟩
        · exact ⟨x, List.mem_cons_of_mem _ hx, h5, h6⟩
      · intro x hx hx3
        rcases List.mem_cons.1 hx with rfl | hx
        · exact h2
        · exact h4 x hx hx3
    · have e : crsStep (-1) o = -1 := by unfold crsStep; rw [if_neg (fun hx => hc hx.1)]
      rw [e]
      rcases ih (fun x hx => h x (List.mem_cons_of_mem _ hx)) with ⟨h1, h2⟩ | ⟨h1, ⟨x, hx, h5, h6⟩, h4⟩
      · refine .inl ⟨h1, fun x hx => ?_⟩
        rcases List.mem_cons.1 hx with rfl | hx
        · exact hc
        · exact h2 x hx
      · refine .inr ⟨h1, ⟨x, List.mem_cons_of_mem _ hx, h5, h6⟩, fun x hx hx3 => ?_⟩
        rcases List.mem_cons.1 hx with rfl | hx
        · exact absurd hx3 hc
        · exact h4 x hx hx3
theorem course_plain (os : List Ord) : courseF os = -1 ∨
    (0 ≤ courseF os ∧ ticketB os = true ∧ (∃ o ∈ os, o.1 = courseF os ∧ o.2 < 3) ∧ (∀ o ∈ os, o.1 < courseF os → 3 ≤ o.2) ∧ ∀ o ∈ os, courseF os < o.1 → o.2 < 1 ∨ 3 < o.2) := by
  cases ht : ticketB os
  · exact .inl (courseF_no ht)
  · rw [courseF_yes ht]
    have ht0 := ht
    unfold ticketB at ht
    rw [Bool.and_eq_true, List.all_eq_true] at ht
    have hall := ht.1
    have hr : ∀ o ∈ os, 0 ≤ o.1 := fun o ho => by
      have := hall o ho
      simp [tOk, inB] at this
      exact this.1.1
    rcases crs_spec os hr with ⟨h1, -⟩ | ⟨h1, ⟨x, hx, h2, h3⟩, h4⟩
    · exact .inl h1
    · refine .inr ⟨h1, rfl, ⟨x, hx, h2, h3⟩, fun o ho hlt => ?_, fun o ho hgt => ?_⟩
      · by_cases h5 : o.2 < 3
        · have := h4 o ho h5; omega
        · omega
      · have h6 := hall o ho
        simp only [tOk, Bool.and_eq_true, Bool.or_eq_true, Bool.not_eq_true'] at h6
        rcases h6.2.2 with h7 | h7
        · simp [inB] at h7; omega
        · unfold readyB at h7
          have := List.all_eq_true.1 h7 x hx
          simp [rdP] at this
          omega
theorem done_neg {os : List Ord} (h : courseF os = -1) : doneB os = ticketB os := by
  simp [doneB, h]
theorem mayF_asc (os : List Ord) : (mayF os).Pairwise (· < ·) := by
  unfold mayF mayK
  rw [List.pairwise_map]
  refine (List.Pairwise.filter _ (List.pairwise_lt_range (n := os.length))).imp ?_
  intro a b h
  exact Int.ofNat_lt.2 h
theorem fire_ok {os : List Ord} {k : Nat} (ht : ticketB os = true) (hk : k < os.length) (h0 : os[k].2 = 0) : ticketB (os.set k (os[k].1, 1)) = true ↔ os[k].1 = courseF os := by
  rcases course_plain os with hx | ⟨hc0, -, ⟨x, hx, hx1, hx2⟩, hlo, hhi⟩
  · exfalso
    rw [courseF_yes ht] at hx
    have hr : ∀ o ∈ os, 0 ≤ o.1 := fun o ho => by
      unfold ticketB at ht
      rw [Bool.and_eq_true, List.all_eq_true] at ht
      have := ht.1 o ho
      simp [tOk, inB] at this
      exact this.1.1
    rcases crs_spec os hr with ⟨-, h2⟩ | ⟨h1, -⟩
    · exact h2 _ (List.getElem_mem hk) (by omega)
    · omega
  · have hT := ht
    unfold ticketB at ht
    rw [Bool.and_eq_true, List.all_eq_true, decide_eq_true_eq] at ht
    obtain ⟨hall, h6⟩ := ht
    have hmem := List.getElem_mem hk
    have hge : courseF os ≤ os[k].1 := by
      by_cases hlt : os[k].1 < courseF os
      · have := hlo _ hmem hlt; omega
      · omega
    constructor
    · intro hs
      unfold ticketB at hs
      rw [Bool.and_eq_true, List.all_eq_true] at hs
      have h1 := hs.1 _ (List.mem_set hk _)
      simp only [tOk, Bool.and_eq_true, Bool.or_eq_true, Bool.not_eq_true'] at h1
      rcases h1.2.2 with h2 | h2
      · simp [inB] at h2
      · unfold readyB at h2
        rw [List.all_eq_true] at h2
        rcases Int.lt_or_le (courseF os) os[k].1 with h3 | h3
        · exfalso
          obtain ⟨j, hj, e⟩ := List.getElem_of_mem hx
          have hjk : j ≠ k := by
            intro e2; subst e2; rw [e] at h3; omega
          have hxm : x ∈ os.set k (os[k].1, 1) := by
            rw [← e, ← List.getElem_set_ne (fun e2 => hjk e2.symm) (by simpa using hj)]
            exact List.getElem_mem _
          have := h2 x hxm
          simp [rdP] at this
          omega
        · omega
    · intro he
      unfold ticketB
      rw [Bool.and_eq_true, List.all_eq_true, decide_eq_true_eq]
      refine ⟨fun o ho => ?_, by rw [List.length_set]; exact h6⟩
      have hrdy : ∀ co : Int, readyB os co = true → (co ≤ os[k].1) → readyB (os.set k (os[k].1, 1)) co = true := by
        intro co h1 h2
        unfold readyB at h1 ⊢
        rw [List.all_eq_true] at h1 ⊢
        intro y hy
        rcases List.mem_or_eq_of_mem_set hy with h3 | h3
        · exact h1 y h3
        · subst h3
          simp [rdP]
          omega
      rcases List.mem_or_eq_of_mem_set ho with h1 | h1
      · have h2 := hall o h1
        simp only [tOk, Bool.and_eq_true, Bool.or_eq_true, Bool.not_eq_true'] at h2 ⊢
        refine ⟨h2.1, h2.2.1, ?_⟩
        rcases h2.2.2 with h3 | h3
        · exact .inl h3
        · refine .inr (hrdy _ h3 ?_)
          rcases Int.lt_or_le os[k].1 o.1 with h4 | h4
          · exfalso
            unfold readyB at h3
            have := List.all_eq_true.1 h3 _ hmem
            simp [rdP] at this
            omega
          · exact h4
      · subst h1
        have h2 := hall _ hmem
        simp only [tOk, Bool.and_eq_true, Bool.or_eq_true, Bool.not_eq_true'] at h2 ⊢
        refine ⟨h2.1, by simp [inB], .inr (hrdy _ ?_ (Int.le_refl _))⟩
        unfold readyB
        rw [List.all_eq_true]
        intro y hy
        simp [rdP]
        rcases Int.lt_or_le y.1 os[k].1 with h | h
        · exact .inr (hlo y hy (by omega))
        · exact .inl h
theorem may_plain {os : List Ord} (ht : ticketB os = true) (k : Nat) (hk : k < os.length) : decide ((k : Int) ∈ mayF os) = (os[k].1 == courseF os && os[k].2 == 0) := by
  have hm : ((k : Int) ∈ mayF os) ↔ (doF os (k : Int) 0).2 = true := by
    unfold mayF mayK
    simp only [List.mem_map, List.mem_filter, List.mem_range]
    constructor
    · rintro ⟨j, ⟨-, h⟩, e⟩
      obtain rfl : j = k := by omega
      exact h
    · intro h; exact ⟨k, ⟨hk, h⟩, rfl⟩
  have he0 : decide ((k : Int) ∈ mayF os) = (doF os (k : Int) 0).2 := by rw [Bool.eq_iff_iff, decide_eq_true_eq]; exact hm
  rw [he0]
  by_cases h0 : os[k].2 = 0
  · have hn : nextF os[k].2 0 = 1 := by rw [h0]; rfl
    cases hs : ticketB (os.set k (os[k].1, 1))
    · have hne : ¬ os[k].1 = courseF os := fun h => by rw [(fire_ok ht hk h0).2 h] at hs; cases hs
      have := doF_5 (event := 0) ht hk (by rw [hn]; omega) (by rw [hn]; exact hs)
      rw [this]
      simp [hne]
    · have he := (fire_ok ht hk h0).1 hs
      have := doF_4 (event := 0) ht hk (by rw [hn]; omega) (by rw [hn]; exact hs)
      rw [this]
      simp [he, h0]
  · have hn : nextF os[k].2 0 < 0 := by unfold nextF; simp [h0]
    rw [doF_3 ht hk hn]
    simp [h0]
theorem next_up (s e : Int) : nextF s e < 0 ∨ (s < nextF s e ∧ s < 3) := by
  unfold nextF
  split
  · right; omega
  · split
    · right; omega
    · split
      · right; omega
      · split
        · right; omega
        · left; omega
theorem do_cases (os : List Ord) (i e : Int) : ((doF os i e).2 = false ∧ ((doF os i e).1 = os ∨ ticketB os = false)) ∨
    ∃ (n : Nat) (hn : n < os.length) (s : Int), i = n ∧ doF os i e = (os.set n (os[n].1, s), true) ∧ ticketB os = true ∧ ticketB (os.set n (os[n].1, s)) = true ∧ os[n].2 < s ∧ os[n].2 < 3 := by
  cases ht : ticketB os
  · exact .inl ⟨by rw [doF_1 i e ht], .inr rfl⟩
  · by_cases hi : i < 0 ∨ (os.length : Int) ≤ i
    · rw [doF_2 e ht hi]; exact .inl ⟨rfl, .inl rfl⟩
    · obtain ⟨n, rfl⟩ : ∃ n : Nat, i = n := ⟨i.toNat, by omega⟩
      have hn : n < os.length := by omega
      rcases next_up os[n].2 e with h1 | ⟨h1, h2⟩
      · rw [doF_3 ht hn h1]; exact .inl ⟨rfl, .inl rfl⟩
      · by_cases h3 : nextF os[n].2 e < 0
        · rw [doF_3 ht hn h3]; exact .inl ⟨rfl, .inl rfl⟩
        · cases hs : ticketB (os.set n (os[n].1, nextF os[n].2 e))
          · rw [doF_5 ht hn h3 hs]; exact .inl ⟨rfl, .inl rfl⟩
          · exact .inr ⟨n, hn, _, rfl, doF_4 ht hn h3 hs, rfl, hs, h1, h2⟩
/-- In a valid ticket what was fired has nothing before it that is not served. -/
theorem ticket_before {os : List Ord} (h : ticketB os = true) (k j : Nat) (hk : k < os.length) (hj : j < os.length) (h1 : 1 ≤ os[k].2) (h2 : os[k].2 ≤ 3) (h3 : os[j].1 < os[k].1) : 3 ≤ os[j].2 := by
  unfold ticketB at h
  rw [Bool.and_eq_true, List.all_eq_true] at h
  have h4 := h.1 _ (List.getElem_mem hk)
  simp only [tOk, Bool.and_eq_true, Bool.or_eq_true, Bool.not_eq_true'] at h4
  rcases h4.2.2 with h5 | h5
  · simp [inB] at h5; omega
  · unfold readyB at h5
    have := List.all_eq_true.1 h5 _ (List.getElem_mem hj)
    simp [rdP] at this
    omega
end Go.Proofs.YthbledeghanffaaDoor
