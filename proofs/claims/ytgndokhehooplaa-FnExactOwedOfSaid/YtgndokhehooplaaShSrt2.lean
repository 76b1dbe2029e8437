/- The sort of no indices; lemmas on the sort. -/
import Derived.Test.YtgndokhehooplaaShSort
set_option linter.unusedVariables false
set_option linter.unusedSimpArgs false
namespace Go.Proofs.Ytgndokhehooplaa
open Go.ChangeShapes Go.WideShapes Go.ChangeAt Go.RowKit

def togC (xs : List Int) (i j : Int) : Int := at0 xs j.toNat - at0 xs i.toNat
theorem innS_length (cf : Int → Int → Int) : ∀ j l, (innS cf j l).length = l.length
  | 0, l => rfl
  | j + 1, l => by
    rw [innS]; split
    · rw [innS_length cf j, swp_length]
    · rfl
theorem sortTo_length (cf : Int → Int → Int) (l : List Int) : ∀ k, (sortTo cf l k).length = l.length
  | 0 => rfl
  | k + 1 => by rw [sortTo, innS_length, sortTo_length cf l k]
theorem Rng_idx (n : Nat) : Rng (idx n) := by
  intro k hk
  refine ⟨k, hk, ?_⟩
  rw [← at0_eq hk, idx_get]
end Go.Proofs.Ytgndokhehooplaa
