/- Orders: what an order is; turned round; plain facts, no program in sight. -/
import Derived.Test.YtnehedcelfpegaaDoorFlow1
set_option linter.unusedVariables false
set_option linter.unusedSimpArgs false
namespace Go.Proofs.YtnehedcelfpegaaDoor

theorem hasB_iff (xs : List Int) (n : Int) : hasB xs n = true ↔ n ∈ xs := by simp [hasB]
theorem orderB_iff {order : List Int} {m : Nat} : orderB order m = true ↔ order.length = m ∧ order.Nodup ∧ ∀ x ∈ order, 0 ≤ x ∧ x < m := by
  have key : ordUpTo order m order.length = true ↔ order.Nodup ∧ ∀ x ∈ order, 0 ≤ x ∧ x < m := by
    simp only [ordUpTo, List.all_eq_true, List.mem_range, ordP, Bool.and_eq_true, inB_true, Bool.not_eq_true']
    constructor
    · intro h
      refine ⟨List.pairwise_iff_getElem.2 fun i j hi hj hij e => ?_, fun x hx => ?_⟩
      · have h2 := (h j hj).2
        have : hasB (order.take j) (at0 order j) = true := by
          rw [hasB_iff, ← at0_eq hj, ← e]
          exact List.mem_take_iff_getElem.2 ⟨i, by omega, rfl⟩
        rw [this] at h2; cases h2
      · obtain ⟨k, hk, rfl⟩ := List.getElem_of_mem hx
        have := (h k hk).1
        rw [at0_eq hk]; omega
    · rintro ⟨hn, hr⟩ k hk
      have h1 := hr _ (at0_mem hk)
      refine ⟨by omega, ?_⟩
      cases hb : hasB (order.take k) (at0 order k)
      · rfl
      · rw [hasB_iff] at hb
        obtain ⟨i, hi, e⟩ := List.mem_take_iff_getElem.1 hb
        rw [← at0_eq hk] at e
        exact absurd e (List.pairwise_iff_getElem.1 hn i k (by omega) hk (by omega))
  rw [orderB, Bool.and_eq_true, key, decide_eq_true_eq]
  constructor
  · rintro ⟨⟨h1, h2⟩, h3⟩; exact ⟨h3, h1, h2⟩
  · rintro ⟨h3, h1, h2⟩; exact ⟨⟨h1, h2⟩, h3⟩
theorem order_reverse {order : List Int} {m : Nat} (h : orderB order m = true) : orderB order.reverse m = true := by
  rw [orderB_iff] at *
  exact ⟨by rw [List.length_reverse]; exact h.1, (List.reverse_perm order).nodup_iff.2 h.2.1, fun x hx => h.2.2 x (List.mem_reverse.1 hx)⟩
theorem order_reverse_iff {order : List Int} {m : Nat} : orderB order.reverse m = orderB order m := by
  cases h : orderB order m
  · cases h2 : orderB order.reverse m
    · rfl
    · have := order_reverse h2
      rw [List.reverse_reverse, h] at this
      cases this
  · exact order_reverse h
theorem take_snoc (l : List Int) (k : Nat) (h : k < l.length) : l.take (k + 1) = l.take k ++ [at0 l k] := by
  rw [List.take_succ_eq_append_getElem h, at0_eq h]
theorem rev_take_succ (l : List Int) (k : Nat) (h : k < l.length) : l.reverse.take (k + 1) = l.reverse.take k ++ [at0 l (l.length - 1 - k)] := by
  rw [take_snoc _ _ (by simpa using h)]
  congr 2
  rw [← at0_eq (by simpa using h), ← at0_eq (by omega)]
  simp
end Go.Proofs.YtnehedcelfpegaaDoor
