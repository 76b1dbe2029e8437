/- TogetherBest: the reference's buckets are the sorted indices. -/
import Derived.Test.YtnehedcelfpegaaDoorTogP
set_option linter.unusedVariables false
set_option linter.unusedSimpArgs false
namespace Go.Proofs.YtnehedcelfpegaaDoor

def bkF (xs : List Int) (t k : Nat) : List Int := (idx k).filter fun z => at0 xs z.toNat == 30 - (t : Int)
def bkt (xs : List Int) : Nat → List Int
  | 0 => []
  | t + 1 => bkt xs t ++ bkF xs t xs.length
theorem idx_mem (n : Nat) (z : Int) : z ∈ idx n ↔ 0 ≤ z ∧ z < n := by
  simp only [idx, List.mem_map, List.mem_range]
  constructor
  · rintro ⟨a, h, rfl⟩; omega
  · intro h; exact ⟨z.toNat, by omega, by omega⟩
theorem idx_sorted : ∀ n, (idx n).Pairwise (fun a b => a < b)
  | 0 => by simp [idx]
  | n + 1 => by
    rw [idx_succ, List.pairwise_append]
    refine ⟨idx_sorted n, by simp, ?_⟩
    intro a ha b hb
    have := (idx_mem n a).1 ha
    simp at hb; omega
theorem bkt_mem (xs : List Int) (z : Int) : ∀ t, z ∈ bkt xs t ↔ (0 ≤ z ∧ z < xs.length) ∧ 30 - (t : Int) < at0 xs z.toNat ∧ at0 xs z.toNat ≤ 30
  | 0 => by simp [bkt]
  | t + 1 => by
    rw [bkt, List.mem_append, bkt_mem xs z t, bkF, List.mem_filter, idx_mem, beq_iff_eq]; omega
def togR (xs : List Int) (a b : Int) : Prop := at0 xs b.toNat < at0 xs a.toNat ∨ (at0 xs a.toNat = at0 xs b.toNat ∧ a < b)
theorem bkt_sorted (xs : List Int) : ∀ t, (bkt xs t).Pairwise (togR xs)
  | 0 => by simp [bkt]
  | t + 1 => by
    rw [bkt, List.pairwise_append]
    refine ⟨bkt_sorted xs t, ?_, ?_⟩
    · have := (idx_sorted xs.length).filter (fun z => at0 xs z.toNat == 30 - (t : Int))
      refine (List.Pairwise.and_mem.1 this).imp ?_
      rintro a b ⟨ha, hb, hab⟩
      rw [List.mem_filter, beq_iff_eq] at ha hb
      exact .inr ⟨by omega, hab⟩
    · intro a ha b hb
      have h1 := (bkt_mem xs a t).1 ha
      rw [bkF, List.mem_filter, beq_iff_eq] at hb
      exact .inl (by omega)
theorem togF_bkt {xs : List Int} (h : spansB xs = true) : togF xs = bkt xs 31 := by
  rw [togF_yes h]
  refine sortTo_is (togR xs) (togC xs) ?_ ?_ ?_ ?_ xs.length _ (bkt_sorted xs 31) ?_
  · intro a b h1 h2
    unfold togR at h1 h2; omega
  · intro a b c h1 h2
    unfold togR at *; omega
  · intro a b h1
    unfold togC at h1; unfold togR; omega
  · intro a b h1 h2
    unfold togC at h1; unfold togR; omega
  · intro z
    rw [bkt_mem]
    have := spans_bound h z.toNat
    omega
end Go.Proofs.YtnehedcelfpegaaDoor
