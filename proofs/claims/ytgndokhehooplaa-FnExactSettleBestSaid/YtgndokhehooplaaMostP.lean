/- Groups of people whose numbers are together 0: tables over sets (sums of powers of 2); the table does not change when those with 0 are left out. No program in sight. -/
import Derived.Test.YtgndokhehooplaaInts
import Derived.Test.YtgndokhehooplaaAt
set_option linter.unusedVariables false
set_option linter.unusedSimpArgs false
namespace Go.Proofs.Ytgndokhehooplaa

/-- p is a part of s (bit by bit). -/
def Sub : Nat → Nat → Prop := fun p s => p &&& s = p
theorem sub_half {p s : Nat} : Sub p s ↔ (p % 2 = 1 → s % 2 = 1) ∧ Sub (p / 2) (s / 2) := by
  unfold Sub
  have h1 : (p &&& s) / 2 = p / 2 &&& s / 2 := Nat.and_div_two
  have h2 : (p &&& s) % 2 = (p % 2) * (s % 2) := by
    have := Nat.and_mod_two_pow (a := p) (b := s) (n := 1)
    simp only [Nat.pow_one] at this
    rw [this]
    rcases Nat.mod_two_eq_zero_or_one p with e | e <;> rcases Nat.mod_two_eq_zero_or_one s with e' | e' <;> rw [e, e'] <;> rfl
  constructor
  · intro h
    rw [h] at h1 h2
    refine ⟨fun hp => ?_, by rw [← h1]⟩
    rw [hp] at h2
    omega
  · rintro ⟨h3, h4⟩
    have e1 : (p &&& s) / 2 = p / 2 := by rw [h1, h4]
    have e2 : (p &&& s) % 2 = p % 2 := by
      rw [h2]
      rcases Nat.mod_two_eq_zero_or_one p with e | e
      · rw [e]; omega
      · rw [e, h3 e]
    omega
theorem sub_zero_left (s : Nat) : Sub 0 s := by simp [Sub]
theorem sub_refl (s : Nat) : Sub s s := by simp [Sub]
theorem sub_le {p s : Nat} (h : Sub p s) : p ≤ s := by
  have := Nat.and_le_right (n := p) (m := s)
  rw [h] at this; exact this
theorem sub_diff {p s : Nat} (h : Sub p s) : Sub (s - p) s ∧ (s - p) % 2 = s % 2 - p % 2 ∧ (s - p) / 2 = s / 2 - p / 2 := by
  induction s using Nat.strongRecOn generalizing p with
  | _ s ih =>
    have hle := sub_le h
    obtain ⟨h1, h2⟩ := sub_half.1 h
    have hle2 := sub_le h2
    have e1 : (s - p) % 2 = s % 2 - p % 2 := by omega
    have e2 : (s - p) / 2 = s / 2 - p / 2 := by omega
    refine ⟨?_, e1, e2⟩
    rw [sub_half, e1, e2]
    refine ⟨fun h => by omega, ?_⟩
    rcases Nat.eq_zero_or_pos s with e | e
    · subst e
      simp [Sub]
    · exact (ih (s / 2) (by omega) h2).1
/-- The next part that is less: the greatest one. -/
theorem sub_next {s : Nat} : ∀ {p q : Nat}, Sub p s → Sub q s → q < p → q ≤ (p - 1) &&& s := by
  induction s using Nat.strongRecOn with
  | _ s ih =>
    intro p q hp hq hlt
    obtain ⟨p1, p2⟩ := sub_half.1 hp
    obtain ⟨q1, q2⟩ := sub_half.1 hq
    have hle := sub_le hp
    have h1 : ((p - 1) &&& s) / 2 = (p - 1) / 2 &&& s / 2 := Nat.and_div_two
    have h2 : ((p - 1) &&& s) % 2 = ((p - 1) % 2) * (s % 2) := by
      have := Nat.and_mod_two_pow (a := p - 1) (b := s) (n := 1)
      simp only [Nat.pow_one] at this
      rw [this]
      rcases Nat.mod_two_eq_zero_or_one (p - 1) with e | e <;> rcases Nat.mod_two_eq_zero_or_one s with e' | e' <;> rw [e, e'] <;> rfl
    rcases Nat.mod_two_eq_zero_or_one p with e | e
    · have e3 : (p - 1) / 2 = p / 2 - 1 := by omega
      have e4 : (p - 1) % 2 = 1 := by omega
      rw [e3] at h1
      rw [e4, Nat.one_mul] at h2
      have h3 := ih (s / 2) (by omega) p2 q2 (by omega)
      rw [← h1] at h3
      rcases Nat.mod_two_eq_zero_or_one q with e5 | e5
      · omega
      · have := q1 e5; omega
    · have e3 : (p - 1) / 2 = p / 2 := by omega
      rw [e3, p2] at h1
      omega
theorem and_sub (a s : Nat) : Sub (a &&& s) s := by unfold Sub; rw [Nat.and_assoc, Nat.and_self]

/-- What is owed to the people of a set together. -/
def sumM : List Int → Nat → Int
  | [], _ => 0
  | x :: t, s => (if s % 2 = 1 then x else 0) + sumM t (s / 2)
theorem sumM_zero : ∀ ow : List Int, sumM ow 0 = 0
  | [] => rfl
  | x :: t => by rw [sumM, sumM_zero t]; simp
theorem sumM_diff : ∀ (ow : List Int) {p s : Nat}, Sub p s → sumM ow (s - p) = sumM ow s - sumM ow p
  | [], p, s, _ => by simp [sumM]
  | x :: t, p, s, h => by
    obtain ⟨h1, h2⟩ := sub_half.1 h
    obtain ⟨-, e1, e2⟩ := sub_diff h
    have hle := sub_le h
    rw [sumM, sumM, sumM, e1, e2, sumM_diff t h2]
    rcases Nat.mod_two_eq_zero_or_one p with e | e
    · rw [e, Nat.sub_zero]; split <;> simp <;> omega
    · have e3 := h1 e
      rw [e, e3]; simp; omega
/-- A set of the people with a number other than 0, told among all of them. -/
def emb : List Int → Nat → Nat
  | [], _ => 0
  | x :: t, s => if x = 0 then 2 * emb t s else s % 2 + 2 * emb t (s / 2)
def nz (ow : List Int) : List Int := ow.filter fun x => x != 0
theorem emb_zero : ∀ ow : List Int, emb ow 0 = 0
  | [] => rfl
  | x :: t => by rw [emb]; simp [emb_zero t]
theorem nz_cons_zero {x : Int} (t : List Int) (h : x = 0) : nz (x :: t) = nz t := by simp [nz, h]
theorem nz_cons {x : Int} (t : List Int) (h : x ≠ 0) : nz (x :: t) = x :: nz t := by simp [nz, h]
theorem emb_lt : ∀ (ow : List Int) (s : Nat), emb ow s < 2 ^ ow.length
  | [], s => by simp [emb]
  | x :: t, s => by
    have e : 2 ^ (x :: t).length = 2 * 2 ^ t.length := by rw [List.length_cons, Nat.pow_succ]; omega
    rw [emb, e]
    split
    · have := emb_lt t s; omega
    · have := emb_lt t (s / 2); omega
theorem emb_mono : ∀ (ow : List Int) {p s : Nat}, p < s → s < 2 ^ (nz ow).length → emb ow p < emb ow s
  | [], p, s, h, hs => by simp [nz] at hs; omega
  | x :: t, p, s, h, hs => by
    rw [emb, emb]
    by_cases hx : x = 0
    · rw [if_pos hx, if_pos hx]
      rw [nz_cons_zero t hx] at hs
      have := emb_mono t h hs; omega
    · rw [if_neg hx, if_neg hx]
      rw [nz_cons t hx, List.length_cons, Nat.pow_succ] at hs
      by_cases he : p / 2 = s / 2
      · rw [he]; omega
      · have := emb_mono t (p := p / 2) (s := s / 2) (by omega) (by omega)
        omega
theorem emb_sub : ∀ (ow : List Int) {p s : Nat}, Sub p s → Sub (emb ow p) (emb ow s)
  | [], p, s, _ => by simp [emb, Sub]
  | x :: t, p, s, h => by
    rw [emb, emb]
    by_cases hx : x = 0
    · rw [if_pos hx, if_pos hx, sub_half]
      refine ⟨fun h => by omega, ?_⟩
      rw [show 2 * emb t p / 2 = emb t p by omega, show 2 * emb t s / 2 = emb t s by omega]
      exact emb_sub t h
    · rw [if_neg hx, if_neg hx]
      obtain ⟨h1, h2⟩ := sub_half.1 h
      rw [sub_half]
      refine ⟨fun h => by omega, ?_⟩
      rw [show (p % 2 + 2 * emb t (p / 2)) / 2 = emb t (p / 2) by omega, show (s % 2 + 2 * emb t (s / 2)) / 2 = emb t (s / 2) by omega]
      exact emb_sub t h2
theorem emb_diff : ∀ (ow : List Int) {p s : Nat}, Sub p s → emb ow (s - p) = emb ow s - emb ow p
  | [], p, s, _ => by simp [emb]
  | x :: t, p, s, h => by
    rw [emb, emb, emb]
    by_cases hx : x = 0
    · rw [if_pos hx, if_pos hx, if_pos hx, emb_diff t h]; omega
    · rw [if_neg hx, if_neg hx, if_neg hx]
      obtain ⟨h1, h2⟩ := sub_half.1 h
      obtain ⟨-, e1, e2⟩ := sub_diff h
      have h3 := sub_le (emb_sub t h2)
      rw [e1, e2, emb_diff t h2]
      rcases Nat.mod_two_eq_zero_or_one p with e | e
      · omega
      · have := h1 e; omega
theorem emb_onto : ∀ (ow : List Int) (s q : Nat), Sub q (emb ow s) → ∃ p, Sub p s ∧ emb ow p = q
  | [], s, q, h => ⟨0, sub_zero_left s, by
      have := sub_le h
      simp [emb] at this ⊢
      exact this.symm⟩
  | x :: t, s, q, h => by
    obtain ⟨h1, h2⟩ := sub_half.1 h
    by_cases hx : x = 0
    · rw [emb, if_pos hx] at h1 h2
      rw [show 2 * emb t s / 2 = emb t s by omega] at h2
      obtain ⟨p, hp, e⟩ := emb_onto t s (q / 2) h2
      refine ⟨p, hp, ?_⟩
      rw [emb, if_pos hx, e]
      have : q % 2 = 0 := by
        rcases Nat.mod_two_eq_zero_or_one q with e | e
        · exact e
        · have := h1 e; omega
      omega
    · rw [emb, if_neg hx] at h1 h2
      rw [show (s % 2 + 2 * emb t (s / 2)) / 2 = emb t (s / 2) by omega] at h2
      obtain ⟨p, hp, e⟩ := emb_onto t (s / 2) (q / 2) h2
      refine ⟨2 * p + q % 2, ?_, ?_⟩
      · rw [sub_half, show (2 * p + q % 2) / 2 = p by omega]
        exact ⟨fun h => by have := h1 (by omega); omega, hp⟩
      · rw [emb, if_neg hx, show (2 * p + q % 2) / 2 = p by omega, e]; omega
theorem sumM_emb : ∀ (ow : List Int) (s : Nat), sumM ow (emb ow s) = sumM (nz ow) s
  | [], s => rfl
  | x :: t, s => by
    rw [emb]
    by_cases hx : x = 0
    · rw [if_pos hx, nz_cons_zero t hx, sumM, show 2 * emb t s / 2 = emb t s by omega, sumM_emb t s]
      simp [hx]
    · rw [if_neg hx, nz_cons t hx, sumM, sumM, show (s % 2 + 2 * emb t (s / 2)) / 2 = emb t (s / 2) by omega, show (s % 2 + 2 * emb t (s / 2)) % 2 = s % 2 by omega, sumM_emb t (s / 2)]

/-- v is what the table says for s, where T says it for the lesser sets. -/
structure ValM (ow : List Int) (T : Nat → Int) (s : Nat) (v : Int) : Prop where
  no : sumM ow s ≠ 0 → v = -1
  pos : sumM ow s = 0 → 1 ≤ v
  ge : sumM ow s = 0 → ∀ p, 0 < p → p < s → Sub p s → 1 ≤ T p → T p + T (s - p) ≤ v
  is : sumM ow s = 0 → v = 1 ∨ ∃ p, 0 < p ∧ p < s ∧ Sub p s ∧ 1 ≤ T p ∧ v = T p + T (s - p)
/-- T is the table for the sets less than N. -/
def IsTab (ow : List Int) (T : Nat → Int) (N : Nat) : Prop := T 0 = 0 ∧ ∀ s, 0 < s → s < N → ValM ow T s (T s)
theorem tab_emb {ow : List Int} {T T' : Nat → Int} (h : IsTab ow T (2 ^ ow.length)) (h' : IsTab (nz ow) T' (2 ^ (nz ow).length)) : ∀ s, s < 2 ^ (nz ow).length → T (emb ow s) = T' s := by
  intro s
  induction s using Nat.strongRecOn with
  | _ s ih =>
    intro hs
    rcases Nat.eq_zero_or_pos s with e | hp
    · subst e; rw [emb_zero, h.1, h'.1]
    · have hep : 0 < emb ow s := by have := emb_mono ow hp hs; rw [emb_zero] at this; exact this
      have V := h.2 (emb ow s) hep (emb_lt ow s)
      have V' := h'.2 s hp hs
      have hse := sumM_emb ow s
      by_cases h0 : sumM (nz ow) s = 0
      · have h0' : sumM ow (emb ow s) = 0 := by rw [hse]; exact h0
        have hge : T' s ≤ T (emb ow s) := by
          rcases V'.is h0 with e | ⟨p, p1, p2, p3, p4, p5⟩
          · rw [e]; exact V.pos h0'
          · have a1 := ih p p2 (by omega)
            have a2 : T (emb ow s - emb ow p) = T' (s - p) := by rw [← emb_diff ow p3]; exact ih (s - p) (by omega) (by omega)
            have := V.ge h0' (emb ow p) (by have := emb_mono ow p1 (show p < _ by omega); rw [emb_zero] at this; exact this) (emb_mono ow p2 hs) (emb_sub ow p3) (by rw [a1]; exact p4)
            rw [a1, a2] at this
            rw [p5]; exact this
        have hle : T (emb ow s) ≤ T' s := by
          rcases V.is h0' with e | ⟨q, q1, q2, q3, q4, q5⟩
          · rw [e]; exact V'.pos h0
          · obtain ⟨p, p3, rfl⟩ := emb_onto ow s q q3
            have hps : p < s := by
              rcases Nat.lt_or_ge p s with h | h
              · exact h
              · have := sub_le p3
                have : p = s := by omega
                subst this
                omega
            have hp0 : 0 < p := by
              rcases Nat.eq_zero_or_pos p with e | e
              · subst e; rw [emb_zero] at q1; omega
              · exact e
            have a1 := ih p hps (by omega)
            have a2 : T (emb ow s - emb ow p) = T' (s - p) := by rw [← emb_diff ow p3]; exact ih (s - p) (by omega) (by omega)
            have := V'.ge h0 p hp0 hps p3 (by rw [← a1]; exact q4)
            rw [q5, a1, a2]; exact this
        omega
      · rw [V.no (by rw [hse]; exact h0), V'.no h0]
end Go.Proofs.Ytgndokhehooplaa
