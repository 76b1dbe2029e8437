/- The plain law of the sort of indices: sortTo's result is the one list, ascending by R, with these members. -/
import Derived.Test.YtgndokhehooplaaShSrt2
set_option linter.unusedVariables false
set_option linter.unusedSimpArgs false
namespace Go.Proofs.Ytgndokhehooplaa

def insR (lt : Int → Int → Bool) (x : Int) : List Int → List Int
  | [] => [x]
  | y :: r => if lt x y then y :: insR lt x r else x :: y :: r
theorem insR_mem (lt : Int → Int → Bool) (x z : Int) : ∀ r, z ∈ insR lt x r ↔ z = x ∨ z ∈ r
  | [] => by simp [insR]
  | y :: r => by
    rw [insR]; split
    · simp only [List.mem_cons, insR_mem lt x z r]; constructor
      · rintro (h | h | h) <;> simp [h]
      · rintro (h | h | h) <;> simp [h]
    · simp
theorem insR_sorted (R : Int → Int → Prop) (lt : Int → Int → Bool) (htr : ∀ a b c, R a b → R b c → R a c) (x : Int) :
    ∀ r : List Int, (∀ y ∈ r, (lt x y = true → R x y) ∧ (lt x y = false → R y x)) → r.Pairwise (fun a b => R b a) → (insR lt x r).Pairwise (fun a b => R b a)
  | [], _, _ => by simp [insR]
  | y :: r, h, hp => by
    rw [List.pairwise_cons] at hp
    rw [insR]; split
    · rename_i hl
      rw [List.pairwise_cons]
      refine ⟨?_, insR_sorted R lt htr x r (fun z hz => h z (by simp [hz])) hp.2⟩
      intro z hz
      rcases (insR_mem lt x z r).1 hz with e | e
      · subst e; exact (h y (by simp)).1 hl
      · exact hp.1 z e
    · rename_i hl
      have hyx := (h y (by simp)).2 (by simpa using hl)
      rw [List.pairwise_cons]
      refine ⟨?_, List.pairwise_cons.2 hp⟩
      intro z hz
      rcases List.mem_cons.1 hz with e | e
      · subst e; exact hyx
      · exact htr z y x (hp.1 z e) hyx
theorem sorted_unique (R : Int → Int → Prop) (has : ∀ a b, R a b → ¬ R b a) : ∀ xs ys : List Int, xs.Pairwise R → ys.Pairwise R → (∀ a, a ∈ xs ↔ a ∈ ys) → xs = ys
  | [], [], _, _, _ => rfl
  | [], y :: ys, _, _, h => absurd ((h y).2 (by simp)) (by simp)
  | x :: xs, [], _, _, h => absurd ((h x).1 (by simp)) (by simp)
  | x :: xs, y :: ys, hx, hy, h => by
    rw [List.pairwise_cons] at hx hy
    have e : x = y := by
      rcases List.mem_cons.1 ((h x).1 (by simp)) with e | e
      · exact e
      · rcases List.mem_cons.1 ((h y).2 (by simp)) with e2 | e2
        · exact e2.symm
        · exact absurd (hy.1 x e) (has _ _ (hx.1 y e2))
    subst e
    have : xs = ys := sorted_unique R has xs ys hx.2 hy.2 (fun a => by
      constructor
      · intro ha
        rcases List.mem_cons.1 ((h a).1 (by simp [ha])) with e | e
        · subst e; exact absurd (hx.1 a ha) (fun hh => has _ _ hh hh)
        · exact e
      · intro ha
        rcases List.mem_cons.1 ((h a).2 (by simp [ha])) with e | e
        · subst e; exact absurd (hy.1 a ha) (fun hh => has _ _ hh hh)
        · exact e)
    rw [this]
theorem at0_app (p : List Int) (x : Int) (r : List Int) : at0 (p ++ x :: r) p.length = x := by simp [at0]
theorem at0_app2 (p : List Int) (y x : Int) (r : List Int) : at0 (p ++ y :: x :: r) (p.length + 1) = x := by simp [at0]
theorem swp_app (p : List Int) (y x : Int) (r : List Int) : swp (p ++ y :: x :: r) p.length = p ++ x :: y :: r := by
  rw [swp, at0_app, at0_app2]; simp [List.set_append]
theorem innS_app (cf : Int → Int → Int) (x : Int) : ∀ (r rest : List Int), innS cf r.length (r.reverse ++ x :: rest) = (insR (fun a b => decide (cf a b < 0)) x r).reverse ++ rest
  | [], rest => by simp [innS, insR]
  | y :: r, rest => by
    have e : (y :: r).reverse ++ x :: rest = r.reverse ++ y :: x :: rest := by simp
    have a1 := at0_app r.reverse y (x :: rest)
    have a2 := at0_app2 r.reverse y x rest
    have a3 := swp_app r.reverse y x rest
    rw [List.length_reverse] at a1 a2 a3
    rw [e, List.length_cons, innS, a1, a2, a3, insR]
    by_cases h : cf x y < 0
    · rw [if_pos h, if_pos (decide_eq_true h), innS_app cf x r (y :: rest)]; simp
    · rw [if_neg h, if_neg (by simpa using h)]; simp
def insAll (cf : Int → Int → Int) : Nat → List Int
  | 0 => [0]
  | k + 1 => insR (fun a b => decide (cf a b < 0)) ((k + 1 : Nat) : Int) (insAll cf k)
theorem insR_length (lt : Int → Int → Bool) (x : Int) : ∀ r, (insR lt x r).length = r.length + 1
  | [] => rfl
  | y :: r => by
    rw [insR]; split
    · simp [insR_length lt x r]
    · rfl
theorem insAll_length (cf : Int → Int → Int) : ∀ k, (insAll cf k).length = k + 1
  | 0 => rfl
  | k + 1 => by rw [insAll, insR_length, insAll_length cf k]
theorem insAll_mem (cf : Int → Int → Int) (z : Int) : ∀ k, z ∈ insAll cf k ↔ 0 ≤ z ∧ z ≤ k
  | 0 => by simp [insAll]; omega
  | k + 1 => by rw [insAll, insR_mem, insAll_mem cf z k]; omega
theorem idx_drop (n k : Nat) (h : k < n) : (idx n).drop k = (k : Int) :: (idx n).drop (k + 1) := by
  have hk : k < (idx n).length := by rw [idx_length]; exact h
  rw [List.drop_eq_getElem_cons hk, idx_get]
theorem sortTo_idx (cf : Int → Int → Int) (n : Nat) : ∀ k, k < n → sortTo cf (idx n) k = (insAll cf k).reverse ++ (idx n).drop (k + 1)
  | 0, h => by
    have := idx_drop n 0 h
    rw [List.drop_zero] at this
    rw [sortTo, insAll]; simpa using this
  | k + 1, h => by
    rw [sortTo, sortTo_idx cf n k (by omega), idx_drop n (k + 1) h, insAll, ← innS_app]
    rw [insAll_length]
theorem sortTo_all (cf : Int → Int → Int) (n : Nat) (h : 0 < n) : sortTo cf (idx n) (n - 1) = (insAll cf (n - 1)).reverse := by
  rw [sortTo_idx cf n (n - 1) (by omega), List.drop_of_length_le (by rw [idx_length]; omega)]; simp
theorem insAll_sorted (R : Int → Int → Prop) (cf : Int → Int → Int) (htr : ∀ a b c, R a b → R b c → R a c)
    (h1 : ∀ a b, cf a b < 0 → R a b) (h2 : ∀ a b, ¬ cf a b < 0 → b < a → R b a) : ∀ k, (insAll cf k).Pairwise (fun a b => R b a)
  | 0 => by simp [insAll]
  | k + 1 => by
    rw [insAll]
    refine insR_sorted R _ htr _ _ ?_ (insAll_sorted R cf htr h1 h2 k)
    intro y hy
    have := (insAll_mem cf y k).1 hy
    exact ⟨fun h => h1 _ _ (by simpa using h), fun h => h2 _ _ (by simpa using h) (by omega)⟩
/-- The sorted indices are the one list with these members that ascends by R. -/
theorem sortTo_is (R : Int → Int → Prop) (cf : Int → Int → Int) (has : ∀ a b, R a b → ¬ R b a) (htr : ∀ a b c, R a b → R b c → R a c)
    (h1 : ∀ a b, cf a b < 0 → R a b) (h2 : ∀ a b, ¬ cf a b < 0 → b < a → R b a) (n : Nat) (ys : List Int) (hy : ys.Pairwise R) (hm : ∀ z, z ∈ ys ↔ 0 ≤ z ∧ z < n) : sortTo cf (idx n) (n - 1) = ys := by
  by_cases h : 0 < n
  · rw [sortTo_all cf n h]
    refine sorted_unique R has _ _ (List.pairwise_reverse.2 (insAll_sorted R cf htr h1 h2 _)) hy ?_
    intro z
    rw [List.mem_reverse, insAll_mem, hm]; omega
  · obtain rfl : n = 0 := by omega
    cases ys with
    | nil => rfl
    | cons y ys => have := (hm y).1 (by simp); omega
end Go.Proofs.Ytgndokhehooplaa
