/- Sorting makes no order worse: plain facts on insertion, on lists without repetition, on orders. No program in sight, no condition. -/
import Derived.Test.YtnehedcelfpegaaDoorTogP
set_option linter.unusedVariables false
set_option linter.unusedSimpArgs false
namespace Go.Proofs.YtnehedcelfpegaaDoor

def insL (lt : Int → Int → Bool) (x : Int) : List Int → List Int
  | [] => [x]
  | y :: r => if lt x y then x :: y :: r else y :: insL lt x r
def isort (lt : Int → Int → Bool) : List Int → List Int
  | [] => []
  | x :: r => insL lt x (isort lt r)
theorem insL_mem (lt : Int → Int → Bool) (x z : Int) : ∀ r, z ∈ insL lt x r ↔ z = x ∨ z ∈ r
  | [] => by simp [insL]
  | y :: r => by
    rw [insL]; split
    · simp
    · simp only [List.mem_cons, insL_mem lt x z r]; constructor
      · rintro (h | h | h) <;> simp [h]
      · rintro (h | h | h) <;> simp [h]
theorem isort_mem (lt : Int → Int → Bool) (z : Int) : ∀ r, z ∈ isort lt r ↔ z ∈ r
  | [] => by simp [isort]
  | x :: r => by rw [isort, insL_mem, isort_mem lt z r]; simp
theorem insL_sorted (R : Int → Int → Prop) (lt : Int → Int → Bool) (h1 : ∀ a b, lt a b = true → R a b) (h2 : ∀ a b, lt a b = false → a ≠ b → R b a) (htr : ∀ a b c, R a b → R b c → R a c) (x : Int) :
    ∀ r : List Int, x ∉ r → r.Pairwise R → (insL lt x r).Pairwise R
  | [], _, _ => by simp [insL]
  | y :: r, hx, hp => by
    rw [List.pairwise_cons] at hp
    rw [List.mem_cons, not_or] at hx
    rw [insL]; split
    · rename_i hl
      rw [List.pairwise_cons]
      refine ⟨?_, List.pairwise_cons.2 hp⟩
      intro z hz
      rcases List.mem_cons.1 hz with e | e
      · subst e; exact h1 _ _ hl
      · exact htr x y z (h1 _ _ hl) (hp.1 z e)
    · rename_i hl
      rw [List.pairwise_cons]
      refine ⟨?_, insL_sorted R lt h1 h2 htr x r hx.2 hp.2⟩
      intro z hz
      rcases (insL_mem lt x z r).1 hz with e | e
      · subst e; exact h2 _ _ (by simpa using hl) hx.1
      · exact hp.1 z e
theorem isort_sorted (R : Int → Int → Prop) (lt : Int → Int → Bool) (h1 : ∀ a b, lt a b = true → R a b) (h2 : ∀ a b, lt a b = false → a ≠ b → R b a) (htr : ∀ a b c, R a b → R b c → R a c) :
    ∀ r : List Int, r.Nodup → (isort lt r).Pairwise R
  | [], _ => by simp [isort]
  | x :: r, h => by
    rw [List.nodup_cons] at h
    rw [isort]
    exact insL_sorted R lt h1 h2 htr x _ (by rw [isort_mem]; exact h.1) (isort_sorted R lt h1 h2 htr r h.2)
/-- Where to put a lesser one ahead makes nothing dearer, the sorted list is the cheapest. -/
theorem isort_least {S : Type} (cost : S → List Int → Int) (lt : Int → Int → Bool) (H1 : ∀ x l l', (∀ s, cost s l ≤ cost s l') → ∀ s, cost s (x :: l) ≤ cost s (x :: l'))
    (H2 : ∀ x y l s, lt x y = false → cost s (y :: x :: l) ≤ cost s (x :: y :: l)) : ∀ l s, cost s (isort lt l) ≤ cost s l := by
  have hi : ∀ x l s, cost s (insL lt x l) ≤ cost s (x :: l) := by
    intro x l
    induction l with
    | nil => intro s; exact Int.le_refl _
    | cons y r ih =>
      intro s
      rw [insL]; split
      · exact Int.le_refl _
      · rename_i hl
        exact Int.le_trans (H1 y _ _ ih s) (H2 x y r s (by simpa using hl))
  intro l
  induction l with
  | nil => intro s; exact Int.le_refl _
  | cons x r ih =>
    intro s
    rw [isort]
    exact Int.le_trans (hi x _ s) (H1 x _ _ ih s)
theorem sorted_least {S : Type} (cost : S → List Int → Int) (R : Int → Int → Prop) [∀ a b, Decidable (R a b)] (has : ∀ a b, R a b → ¬ R b a) (htr : ∀ a b c, R a b → R b c → R a c) (hto : ∀ a b, a ≠ b → R a b ∨ R b a)
    (H1 : ∀ x l l', (∀ s, cost s l ≤ cost s l') → ∀ s, cost s (x :: l) ≤ cost s (x :: l'))
    (H2 : ∀ x y l s, R y x → cost s (y :: x :: l) ≤ cost s (x :: y :: l)) (l ys : List Int) (hl : l.Nodup) (hy : ys.Pairwise R) (hm : ∀ z, z ∈ ys ↔ z ∈ l) (s : S) : cost s ys ≤ cost s l := by
  have e : isort (fun a b => decide (R a b)) l = ys := by
    refine sorted_unique R has _ _ (isort_sorted R _ (fun a b h => by simpa using h) (fun a b h hne => ?_) htr l hl) hy (fun z => by rw [isort_mem, hm])
    rcases hto a b hne with h1 | h1
    · simp [h1] at h
    · exact h1
  rw [← e]
  refine isort_least cost _ H1 (fun x y l s h => ?_) l s
  by_cases hxy : x = y
  · subst hxy; exact Int.le_refl _
  · rcases hto x y hxy with h1 | h1
    · simp [h1] at h
    · exact H2 x y l s h1

/-! ### lists without repetition -/
theorem nodup_le : ∀ (xs ys : List Int), xs.Nodup → (∀ x ∈ xs, x ∈ ys) → xs.length ≤ ys.length
  | [], _, _, _ => by simp
  | x :: xs, ys, h, hs => by
    rw [List.nodup_cons] at h
    have hx := hs x (by simp)
    have := nodup_le xs (ys.erase x) h.2 (fun z hz => by
      have hne : z ≠ x := by rintro rfl; exact h.1 hz
      exact (List.mem_erase_of_ne hne).2 (hs z (by simp [hz])))
    rw [List.length_erase_of_mem hx] at this
    have h0 : 0 < ys.length := List.length_pos_of_mem hx
    simp only [List.length_cons]; omega
theorem nodup_all (xs : List Int) (n : Nat) (hn : xs.Nodup) (hl : xs.length = n) (hr : ∀ x ∈ xs, 0 ≤ x ∧ x < n) (z : Int) : z ∈ xs ↔ 0 ≤ z ∧ z < n := by
  constructor
  · exact hr z
  · intro hz
    refine Classical.byContradiction fun hc => ?_
    have := nodup_le (z :: xs) ((List.range n).map fun j : Nat => (j : Int)) (List.nodup_cons.2 ⟨hc, hn⟩) (fun x hx => by
      have hx' : 0 ≤ x ∧ x < n := by
        rcases List.mem_cons.1 hx with e | e
        · rw [e]; exact hz
        · exact hr x e
      exact List.mem_map.2 ⟨x.toNat, List.mem_range.2 (by omega), by omega⟩)
    simp at this
    omega
theorem perm_sum {l l' : List Int} (h : l.Perm l') (f : Int → Int) : (l.map f).sum = (l'.map f).sum := by
  induction h with
  | nil => rfl
  | cons x _ ih => simp [ih]
  | swap x y l => simp; omega
  | trans _ _ ih1 ih2 => exact ih1.trans ih2
theorem perm_of_mem : ∀ (xs ys : List Int), xs.Nodup → ys.Nodup → (∀ z, z ∈ xs ↔ z ∈ ys) → xs.Perm ys
  | [], ys, _, _, h => by
    cases ys with
    | nil => exact .nil
    | cons y ys => exact absurd ((h y).2 (by simp)) (by simp)
  | x :: xs, ys, hx, hy, h => by
    rw [List.nodup_cons] at hx
    have hxy := (h x).1 (by simp)
    refine List.Perm.trans ?_ (List.perm_cons_erase hxy).symm
    refine List.Perm.cons x (perm_of_mem xs (ys.erase x) hx.2 (hy.erase x) fun z => ?_)
    rw [hy.mem_erase_iff]
    constructor
    · intro hz
      exact ⟨by rintro rfl; exact hx.1 hz, (h z).1 (by simp [hz])⟩
    · rintro ⟨h1, h2⟩
      rcases List.mem_cons.1 ((h z).2 h2) with e | e
      · exact absurd e h1
      · exact e
end Go.Proofs.YtnehedcelfpegaaDoor
