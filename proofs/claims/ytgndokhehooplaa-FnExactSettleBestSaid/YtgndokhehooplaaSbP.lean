/- The table over the people of a set is the table of those alone; the least group. No program in sight. -/
import Derived.Test.YtgndokhehooplaaMost5
set_option linter.unusedVariables false
set_option linter.unusedSimpArgs false
namespace Go.Proofs.Ytgndokhehooplaa

/-- The numbers of the people of a set. -/
def pickS : List Int → Nat → List Int
  | [], _ => []
  | x :: t, s => if s % 2 = 1 then x :: pickS t (s / 2) else pickS t (s / 2)
/-- A set of the people of s, told among all of them. -/
def embS : List Int → Nat → Nat → Nat
  | [], _, _ => 0
  | _ :: t, s, p => if s % 2 = 1 then p % 2 + 2 * embS t (s / 2) (p / 2) else 2 * embS t (s / 2) p
theorem embS_zero : ∀ (ow : List Int) (s : Nat), embS ow s 0 = 0
  | [], _ => rfl
  | x :: t, s => by rw [embS]; simp [embS_zero t]
theorem embS_lt : ∀ (ow : List Int) (s p : Nat), embS ow s p < 2 ^ ow.length
  | [], s, p => by simp [embS]
  | x :: t, s, p => by
    have e : 2 ^ (x :: t).length = 2 * 2 ^ t.length := by rw [List.length_cons, Nat.pow_succ]; omega
    rw [embS, e]
    split
    · have := embS_lt t (s / 2) (p / 2); omega
    · have := embS_lt t (s / 2) p; omega
theorem embS_mono : ∀ (ow : List Int) (s : Nat) {p q : Nat}, p < q → q < 2 ^ (pickS ow s).length → embS ow s p < embS ow s q
  | [], s, p, q, h, hs => by simp [pickS] at hs; omega
  | x :: t, s, p, q, h, hs => by
    rw [embS, embS]
    by_cases hx : s % 2 = 1
    · rw [if_pos hx, if_pos hx]
      rw [pickS, if_pos hx, List.length_cons, Nat.pow_succ] at hs
      by_cases he : p / 2 = q / 2
      · rw [he]; omega
      · have := embS_mono t (s / 2) (p := p / 2) (q := q / 2) (by omega) (by omega)
        omega
    · rw [if_neg hx, if_neg hx]
      rw [pickS, if_neg hx] at hs
      have := embS_mono t (s / 2) h hs; omega
theorem embS_sub : ∀ (ow : List Int) (s : Nat) {p q : Nat}, Sub p q → Sub (embS ow s p) (embS ow s q)
  | [], s, p, q, _ => by simp [embS, Sub]
  | x :: t, s, p, q, h => by
    rw [embS, embS]
    by_cases hx : s % 2 = 1
    · rw [if_pos hx, if_pos hx]
      obtain ⟨h1, h2⟩ := sub_half.1 h
      rw [sub_half]
      refine ⟨fun h => by omega, ?_⟩
      rw [show (p % 2 + 2 * embS t (s / 2) (p / 2)) / 2 = embS t (s / 2) (p / 2) by omega, show (q % 2 + 2 * embS t (s / 2) (q / 2)) / 2 = embS t (s / 2) (q / 2) by omega]
      exact embS_sub t (s / 2) h2
    · rw [if_neg hx, if_neg hx, sub_half]
      refine ⟨fun h => by omega, ?_⟩
      rw [show 2 * embS t (s / 2) p / 2 = embS t (s / 2) p by omega, show 2 * embS t (s / 2) q / 2 = embS t (s / 2) q by omega]
      exact embS_sub t (s / 2) h
theorem embS_diff : ∀ (ow : List Int) (s : Nat) {p q : Nat}, Sub p q → embS ow s (q - p) = embS ow s q - embS ow s p
  | [], s, p, q, _ => by simp [embS]
  | x :: t, s, p, q, h => by
    rw [embS, embS, embS]
    by_cases hx : s % 2 = 1
    · rw [if_pos hx, if_pos hx, if_pos hx]
      obtain ⟨h1, h2⟩ := sub_half.1 h
      obtain ⟨-, e1, e2⟩ := sub_diff h
      have h3 := sub_le (embS_sub t (s / 2) h2)
      rw [e1, e2, embS_diff t (s / 2) h2]
      rcases Nat.mod_two_eq_zero_or_one p with e | e
      · omega
      · have := h1 e; omega
    · rw [if_neg hx, if_neg hx, if_neg hx, embS_diff t (s / 2) h]; omega
theorem embS_onto : ∀ (ow : List Int) (s q r : Nat), Sub r (embS ow s q) → ∃ p, Sub p q ∧ embS ow s p = r
  | [], s, q, r, h => ⟨0, sub_zero_left q, by
      have := sub_le h
      simp [embS] at this ⊢
      exact this.symm⟩
  | x :: t, s, q, r, h => by
    obtain ⟨h1, h2⟩ := sub_half.1 h
    by_cases hx : s % 2 = 1
    · rw [embS, if_pos hx] at h1 h2
      rw [show (q % 2 + 2 * embS t (s / 2) (q / 2)) / 2 = embS t (s / 2) (q / 2) by omega] at h2
      obtain ⟨p, hp, e⟩ := embS_onto t (s / 2) (q / 2) (r / 2) h2
      refine ⟨2 * p + r % 2, ?_, ?_⟩
      · rw [sub_half, show (2 * p + r % 2) / 2 = p by omega]
        exact ⟨fun h => by have := h1 (by omega); omega, hp⟩
      · rw [embS, if_pos hx, show (2 * p + r % 2) / 2 = p by omega, e]; omega
    · rw [embS, if_neg hx] at h1 h2
      rw [show 2 * embS t (s / 2) q / 2 = embS t (s / 2) q by omega] at h2
      obtain ⟨p, hp, e⟩ := embS_onto t (s / 2) q (r / 2) h2
      refine ⟨p, hp, ?_⟩
      rw [embS, if_neg hx, e]
      have : r % 2 = 0 := by
        rcases Nat.mod_two_eq_zero_or_one r with e | e
        · exact e
        · have := h1 e; omega
      omega
theorem sumM_embS : ∀ (ow : List Int) (s p : Nat), sumM ow (embS ow s p) = sumM (pickS ow s) p
  | [], s, p => rfl
  | x :: t, s, p => by
    rw [embS]
    by_cases hx : s % 2 = 1
    · rw [if_pos hx, pickS, if_pos hx, sumM, sumM, show (p % 2 + 2 * embS t (s / 2) (p / 2)) / 2 = embS t (s / 2) (p / 2) by omega, show (p % 2 + 2 * embS t (s / 2) (p / 2)) % 2 = p % 2 by omega, sumM_embS t (s / 2) (p / 2)]
    · rw [if_neg hx, pickS, if_neg hx, sumM, show 2 * embS t (s / 2) p / 2 = embS t (s / 2) p by omega, sumM_embS t (s / 2) p]
      simp
theorem embS_full : ∀ (ow : List Int) (s : Nat), s < 2 ^ ow.length → embS ow s (2 ^ (pickS ow s).length - 1) = s
  | [], s, h => by simp at h; simp [embS, h]
  | x :: t, s, h => by
    rw [List.length_cons, Nat.pow_succ] at h
    have ih := embS_full t (s / 2) (by omega)
    rw [embS]
    by_cases hx : s % 2 = 1
    · rw [if_pos hx, pickS, if_pos hx, List.length_cons, Nat.pow_succ]
      have hp := Nat.pow_pos (a := 2) (n := (pickS t (s / 2)).length) (by omega)
      rw [show (2 ^ (pickS t (s / 2)).length * 2 - 1) / 2 = 2 ^ (pickS t (s / 2)).length - 1 by omega, show (2 ^ (pickS t (s / 2)).length * 2 - 1) % 2 = 1 by omega, ih]; omega
    · rw [if_neg hx, pickS, if_neg hx, ih]; omega
theorem tab_embS {ow : List Int} {T T' : Nat → Int} (S : Nat) (h : IsTab ow T (2 ^ ow.length)) (h' : IsTab (pickS ow S) T' (2 ^ (pickS ow S).length)) : ∀ s, s < 2 ^ (pickS ow S).length → T (embS ow S s) = T' s := by
  intro s
  induction s using Nat.strongRecOn with
  | _ s ih =>
    intro hs
    rcases Nat.eq_zero_or_pos s with e | hp
    · subst e; rw [embS_zero, h.1, h'.1]
    · have hep : 0 < embS ow S s := by have := embS_mono ow S hp hs; rw [embS_zero] at this; exact this
      have V := h.2 (embS ow S s) hep (embS_lt ow S s)
      have V' := h'.2 s hp hs
      have hse := sumM_embS ow S s
      by_cases h0 : sumM (pickS ow S) s = 0
      · have h0' : sumM ow (embS ow S s) = 0 := by rw [hse]; exact h0
        have hge : T' s ≤ T (embS ow S s) := by
          rcases V'.is h0 with e | ⟨p, p1, p2, p3, p4, p5⟩
          · rw [e]; exact V.pos h0'
          · have a1 := ih p p2 (by omega)
            have a2 : T (embS ow S s - embS ow S p) = T' (s - p) := by rw [← embS_diff ow S p3]; exact ih (s - p) (by omega) (by omega)
            have := V.ge h0' (embS ow S p) (by have := embS_mono ow S p1 (show p < _ by omega); rw [embS_zero] at this; exact this) (embS_mono ow S p2 hs) (embS_sub ow S p3) (by rw [a1]; exact p4)
            rw [a1, a2] at this
            rw [p5]; exact this
        have hle : T (embS ow S s) ≤ T' s := by
          rcases V.is h0' with e | ⟨q, q1, q2, q3, q4, q5⟩
          · rw [e]; exact V'.pos h0
          · obtain ⟨p, p3, rfl⟩ := embS_onto ow S s q q3
            have hps : p < s := by
              rcases Nat.lt_or_ge p s with h | h
              · exact h
              · have := sub_le p3
                have : p = s := by omega
                subst this
                omega
            have hp0 : 0 < p := by
              rcases Nat.eq_zero_or_pos p with e | e
              · subst e; rw [embS_zero] at q1; omega
              · exact e
            have a1 := ih p hps (by omega)
            have a2 : T (embS ow S s - embS ow S p) = T' (s - p) := by rw [← embS_diff ow S p3]; exact ih (s - p) (by omega) (by omega)
            have := V'.ge h0 p hp0 hps p3 (by rw [← a1]; exact q4)
            rw [q5, a1, a2]; exact this
        omega
      · rw [V.no (by rw [hse]; exact h0), V'.no h0]
theorem pickS_len : ∀ (ow : List Int) (s : Nat), (pickS ow s).length ≤ ow.length
  | [], _ => by simp [pickS]
  | x :: t, s => by
    rw [pickS]
    have := pickS_len t (s / 2)
    split <;> simp <;> omega
theorem pickS_mem : ∀ (ow : List Int) (s : Nat) (x : Int), x ∈ pickS ow s → x ∈ ow
  | [], _, x, h => by simp [pickS] at h
  | y :: t, s, x, h => by
    rw [pickS] at h
    split at h
    · rcases List.mem_cons.1 h with e | e
      · simp [e]
      · simp [pickS_mem t _ x e]
    · simp [pickS_mem t _ x h]
theorem pickS_sum : ∀ (ow : List Int) (s : Nat), (pickS ow s).sum = sumM ow s
  | [], _ => rfl
  | x :: t, s => by
    rw [pickS, sumM]
    split
    · rw [List.sum_cons, pickS_sum t]
    · rw [pickS_sum t]; simp
/-- Of those with another number than 0 none is left out. -/
theorem pickS_nz : ∀ (ow : List Int) (s : Nat), Sub s (concR ow) → nz (pickS ow s) = pickS ow s
  | [], _, _ => rfl
  | x :: t, s, h => by
    obtain ⟨h1, h2⟩ := sub_half.1 h
    rw [concR] at h1 h2
    by_cases hx : x = 0
    · rw [if_pos hx] at h1 h2
      rw [show (0 + 2 * concR t) / 2 = concR t by omega] at h2
      have hs : ¬ s % 2 = 1 := fun e => by have := h1 e; omega
      rw [pickS, if_neg hs]
      exact pickS_nz t _ h2
    · rw [if_neg hx] at h1 h2
      rw [show (1 + 2 * concR t) / 2 = concR t by omega] at h2
      rw [pickS]
      split
      · rw [nz_cons _ hx, pickS_nz t _ h2]
      · exact pickS_nz t _ h2
theorem pickS_owed {ow : List Int} (h : owedB ow = true) (s : Nat) (h0 : sumM ow s = 0) : owedB (pickS ow s) = true := by
  simp only [owedB, Bool.and_eq_true, decide_eq_true_eq, List.all_eq_true] at h ⊢
  have h7 := pickS_len ow s
  refine ⟨by omega, fun x hx => h.2.1 x (pickS_mem ow s x hx), ?_⟩
  rw [pickS_sum, h0]; rfl
/-- What the reference's table says of a set of people with another number than 0. -/
theorem most_pick {ow : List Int} {T : Nat → Int} (h : owedB ow = true) (hT : IsTab ow T (2 ^ ow.length)) (s : Nat) (hs : s < 2 ^ ow.length) (hsub : Sub s (concR ow)) (h0 : sumM ow s = 0) : mostF (pickS ow s) = T s := by
  rw [mostF_yes (pickS_owed h s h0)]
  have e := pickS_nz ow s hsub
  unfold fullS
  rw [e]
  have hp := Nat.pow_pos (a := 2) (n := (pickS ow s).length) (by omega)
  have h2 := tabL_ok (pickS ow s) (2 ^ (pickS ow s).length - 1)
  rw [show 2 ^ (pickS ow s).length - 1 + 1 = 2 ^ (pickS ow s).length by omega] at h2
  rw [← tab_embS s hT h2 (2 ^ (pickS ow s).length - 1) (by omega), embS_full ow s hs]
end Go.Proofs.Ytgndokhehooplaa
