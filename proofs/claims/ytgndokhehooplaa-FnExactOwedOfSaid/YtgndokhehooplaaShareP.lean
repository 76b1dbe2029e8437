/- ShareOf: the parts, and why the first ones of the sorted indices are those that the reference picks. No program in sight. -/
import Derived.Test.YtgndokhehooplaaShV
import Derived.Test.YtgndokhehooplaaShSrtP
set_option linter.unusedVariables false
set_option linter.unusedSimpArgs false
namespace Go.Proofs.Ytgndokhehooplaa

theorem idx_memS (n : Nat) (z : Int) : z ∈ idx n ↔ 0 ≤ z ∧ z < n := by
  simp only [idx, List.mem_map, List.mem_range]
  constructor
  · rintro ⟨a, h, rfl⟩; omega
  · intro h; exact ⟨z.toNat, by omega, by omega⟩
def shR (xs : List Int) (s all : Int) : List Int := xs.map fun x => s * x % all
def shQ (xs : List Int) (s all : Int) : List Int := xs.map fun x => s * x / all
theorem shR_length (xs : List Int) (s all : Int) : (shR xs s all).length = xs.length := by simp [shR]
theorem shQ_length (xs : List Int) (s all : Int) : (shQ xs s all).length = xs.length := by simp [shQ]
theorem shR_at (xs : List Int) (s all : Int) (k : Nat) (h : k < xs.length) : at0 (shR xs s all) k = s * at0 xs k % all := by
  rw [← at0_eq (by rw [shR_length]; exact h), ← at0_eq h]; simp [shR]
theorem shQ_at (xs : List Int) (s all : Int) (k : Nat) (h : k < xs.length) : at0 (shQ xs s all) k = s * at0 xs k / all := by
  rw [← at0_eq (by rw [shQ_length]; exact h), ← at0_eq h]; simp [shQ]
theorem shQ_take_succ (xs : List Int) (s all : Int) (k : Nat) (h : k < xs.length) : shQ (xs.take (k + 1)) s all = shQ (xs.take k) s all ++ [s * at0 xs k / all] := by
  rw [shQ, List.take_succ_eq_append_getElem h, List.map_append, at0_eq h]; rfl
/-- The remainders together are what is left, times all. -/
theorem share_sum (s all : Int) : ∀ xs : List Int, all * (shQ xs s all).sum + (shR xs s all).sum = s * xs.sum
  | [] => by simp [shQ, shR]
  | x :: t => by
    have h1 := share_sum s all t
    have h2 := Int.mul_ediv_add_emod (s * x) all
    simp only [shQ, shR, List.map_cons, List.sum_cons] at *
    rw [Int.mul_add, Int.mul_add]; omega
theorem shR_bound {xs : List Int} {s all : Int} (ha : 0 < all) : 0 ≤ (shR xs s all).sum ∧ (shR xs s all).sum ≤ (all - 1) * xs.length := by
  induction xs with
  | nil => simp [shR]
  | cons x t ih =>
    have h1 := Int.emod_nonneg (s * x) (show all ≠ 0 by omega)
    have h2 := Int.emod_lt_of_pos (s * x) ha
    simp only [shR, List.map_cons, List.sum_cons, List.length_cons] at *
    have e : (all - 1) * ((t.length + 1 : Nat) : Int) = (all - 1) * t.length + (all - 1) := by rw [Int.natCast_add, Int.mul_add]; simp
    rw [e]; omega
def leftS (xs : List Int) (s : Int) : Int := s - (shQ xs s xs.sum).sum
theorem left_bound {xs : List Int} {s : Int} (ha : 0 < xs.sum) : 0 ≤ leftS xs s ∧ leftS xs s ≤ xs.length ∧ (0 < xs.length → leftS xs s < xs.length) := by
  have h1 := share_sum s xs.sum xs
  obtain ⟨h2, h3⟩ := shR_bound (xs := xs) (s := s) ha
  have e : xs.sum * leftS xs s = (shR xs s xs.sum).sum := by rw [leftS, Int.mul_sub, Int.mul_comm xs.sum s]; omega
  have k1 : 0 ≤ leftS xs s := by
    rcases Int.lt_or_le (leftS xs s) 0 with h | h
    · have := Int.mul_neg_of_pos_of_neg ha h; omega
    · exact h
  have k2 : leftS xs s ≤ xs.length := by
    rcases Int.lt_or_le (xs.length : Int) (leftS xs s) with h | h
    · have h4 := Int.mul_le_mul_of_nonneg_left (show (xs.length : Int) ≤ leftS xs s by omega) (show 0 ≤ xs.sum by omega)
      have h5 := Int.mul_lt_mul_of_pos_left h ha
      have e2 : (xs.sum - 1) * (xs.length : Int) = xs.sum * xs.length - xs.length := by rw [Int.sub_mul]; omega
      omega
    · exact h
  refine ⟨k1, k2, fun hp => ?_⟩
  rcases Int.lt_or_le (leftS xs s) (xs.length : Int) with h | h
  · exact h
  · have e0 : leftS xs s = xs.length := by omega
    have e2 : (xs.sum - 1) * (xs.length : Int) = xs.sum * xs.length - xs.length := by rw [Int.sub_mul]; omega
    rw [e0] at e
    omega
/-- Who comes first: the greater remainder, the lesser index. -/
def shO (rs : List Int) (a b : Int) : Prop := at0 rs b.toNat < at0 rs a.toNat ∨ (at0 rs a.toNat = at0 rs b.toNat ∧ a < b)
theorem shO_as (rs : List Int) (a b : Int) (h : shO rs a b) : ¬ shO rs b a := by unfold shO at *; omega
theorem shO_tr (rs : List Int) (a b c : Int) (h : shO rs a b) (h2 : shO rs b c) : shO rs a c := by unfold shO at *; omega
theorem shO_tot (rs : List Int) (a b : Int) : a = b ∨ shO rs a b ∨ shO rs b a := by unfold shO; omega
def ordS (rs : List Int) (n : Nat) : List Int := sortTo (togC rs) (idx n) (n - 1)
theorem ordS_length (rs : List Int) (n : Nat) : (ordS rs n).length = n := by rw [ordS, sortTo_length, idx_length]
theorem ordS_sorted (rs : List Int) (n : Nat) : (ordS rs n).Pairwise (shO rs) := by
  by_cases h : 0 < n
  · rw [ordS, sortTo_all _ n h]
    refine List.pairwise_reverse.2 (insAll_sorted (shO rs) _ (shO_tr rs) ?_ ?_ _)
    · intro a b h1; unfold togC at h1; unfold shO; omega
    · intro a b h1 h2; unfold togC at h1; unfold shO; omega
  · have : n = 0 := by omega
    subst this
    have : ordS rs 0 = [] := List.eq_nil_of_length_eq_zero (ordS_length rs 0)
    rw [this]; simp
theorem ordS_mem (rs : List Int) (n : Nat) (z : Int) : z ∈ ordS rs n ↔ 0 ≤ z ∧ z < n := by
  by_cases h : 0 < n
  · rw [ordS, sortTo_all _ n h, List.mem_reverse, insAll_mem]; omega
  · have : n = 0 := by omega
    subst this
    have : ordS rs 0 = [] := List.eq_nil_of_length_eq_zero (ordS_length rs 0)
    rw [this]; simp <;> omega
/-- The scan for the best one that was not got yet. -/
def bstS (rs got : List Int) : Nat → Int
  | 0 => -1
  | k + 1 => if !hasB got k && (decide (bstS rs got k < 0) || decide (at0 rs (bstS rs got k).toNat < at0 rs k)) then (k : Int) else bstS rs got k
theorem hasB_mem (xs : List Int) (n : Int) : hasB xs n = true ↔ n ∈ xs := by
  rw [hasB, List.any_eq_true]
  constructor
  · rintro ⟨x, hx, e⟩; rw [beq_iff_eq] at e; subst e; exact hx
  · intro h; exact ⟨n, h, by simp⟩
theorem bstS_spec (rs got : List Int) : ∀ k, (bstS rs got k = -1 ∧ ∀ j : Nat, j < k → (j : Int) ∈ got) ∨
    ∃ b : Nat, bstS rs got k = b ∧ b < k ∧ (b : Int) ∉ got ∧ ∀ j : Nat, j < k → (j : Int) ∉ got → j = b ∨ shO rs b j
  | 0 => .inl ⟨rfl, fun j hj => by omega⟩
  | k + 1 => by
    rw [bstS]
    cases hg : hasB got k
    · have hk : (k : Int) ∉ got := by intro h; rw [← hasB_mem, hg] at h; simp at h
      rcases bstS_spec rs got k with ⟨e, h⟩ | ⟨b, e, hb, hn, h⟩
      · rw [e]
        refine .inr ⟨k, by simp, by omega, hk, fun j hj hjn => ?_⟩
        by_cases e2 : j = k
        · exact .inl e2
        · exact absurd (h j (by omega)) hjn
      · rw [e]
        by_cases hlt : at0 rs b < at0 rs k
        · refine .inr ⟨k, by simp [hlt], by omega, hk, fun j hj hjn => ?_⟩
          by_cases e2 : j = k
          · exact .inl e2
          · rcases h j (by omega) hjn with e3 | e3
            · subst e3; exact .inr (.inl (by simpa using hlt))
            · exact .inr (shO_tr rs k b j (.inl (by simpa using hlt)) e3)
        · refine .inr ⟨b, by simp [hlt]; omega, by omega, hn, fun j hj hjn => ?_⟩
          by_cases e2 : j = k
          · subst e2
            right; unfold shO; simp; omega
          · exact h j (by omega) hjn
    · rcases bstS_spec rs got k with ⟨e, h⟩ | ⟨b, e, hb, hn, h⟩
      · refine .inl ⟨by simp [e], fun j hj => ?_⟩
        by_cases e2 : j = k
        · subst e2; exact (hasB_mem _ _).1 hg
        · exact h j (by omega)
      · refine .inr ⟨b, by simp [e], by omega, hn, fun j hj hjn => ?_⟩
        by_cases e2 : j = k
        · subst e2; exact absurd ((hasB_mem _ _).1 hg) hjn
        · exact h j (by omega) hjn
/-- The next pick is the next one of the sorted indices. -/
theorem bstS_next (rs : List Int) (n m : Nat) (hm : m < n) : bstS rs ((ordS rs n).take m) n = at0 (ordS rs n) m ∧ 0 ≤ at0 (ordS rs n) m ∧ at0 (ordS rs n) m < n := by
  have hl := ordS_length rs n
  have hml : m < (ordS rs n).length := by omega
  have hsrt := ordS_sorted rs n
  have e0 : (ordS rs n) = (ordS rs n).take m ++ at0 (ordS rs n) m :: (ordS rs n).drop (m + 1) := by
    have := List.take_append_drop m (ordS rs n)
    rw [List.drop_eq_getElem_cons hml, at0_eq hml] at this
    exact this.symm
  have hmem : at0 (ordS rs n) m ∈ ordS rs n := by rw [← at0_eq hml]; exact List.getElem_mem hml
  obtain ⟨r1, r2⟩ := (ordS_mem rs n _).1 hmem
  generalize hx : at0 (ordS rs n) m = x at *
  generalize hp : (ordS rs n).take m = p at *
  generalize hq : (ordS rs n).drop (m + 1) = q at *
  rw [e0, List.pairwise_append, List.pairwise_cons] at hsrt
  obtain ⟨s1, ⟨s2, s3⟩, s4⟩ := hsrt
  have hxp : x ∉ p := fun h => by
    have := s4 x h x (by simp)
    exact shO_as rs x x this this
  obtain ⟨X, rfl⟩ : ∃ X : Nat, x = X := ⟨x.toNat, by omega⟩
  refine ⟨?_, r1, r2⟩
  rcases bstS_spec rs p n with ⟨_, h⟩ | ⟨b, e, hb, hn, h⟩
  · exact absurd (h X (by omega)) hxp
  · rw [e]
    rcases h X (by omega) hxp with e2 | e2
    · rw [e2]
    · have hbm : (b : Int) ∈ ordS rs n := (ordS_mem rs n _).2 (by omega)
      rw [e0, List.mem_append, List.mem_cons] at hbm
      rcases hbm with h5 | h5 | h5
      · exact absurd h5 hn
      · exact h5
      · exact absurd e2 (shO_as rs _ _ (s2 _ h5))
def incS (p : List Int) (i : Int) : List Int := p.set i.toNat (at0 p i.toNat + 1)
def incAll (p : List Int) : List Int → List Int
  | [] => p
  | i :: r => incAll (incS p i) r
theorem incAll_app (p : List Int) (L : List Int) (i : Int) : incAll p (L ++ [i]) = incS (incAll p L) i := by
  induction L generalizing p with
  | nil => rfl
  | cons a L ih => rw [List.cons_append, incAll, ih, incAll]
theorem incAll_length (p L : List Int) : (incAll p L).length = p.length := by
  induction L generalizing p with
  | nil => rfl
  | cons a L ih => rw [incAll, ih, incS, List.length_set]
theorem incAll_bound (p L : List Int) (M N : Int) (h : ∀ a, M ≤ at0 p a ∧ at0 p a ≤ N) : ∀ a, M ≤ at0 (incAll p L) a ∧ at0 (incAll p L) a ≤ N + L.length := by
  induction L generalizing p N with
  | nil => intro a; have := h a; rw [incAll]; simp; omega
  | cons i L ih =>
    intro a
    rw [incAll]
    have h2 := ih (incS p i) (N + 1) (fun a => by
      have h1 := h a
      rw [incS]
      by_cases e : i.toNat = a
      · subst e
        by_cases hl : i.toNat < p.length
        · rw [at0_set_eq _ _ _ hl]; omega
        · rw [List.set_eq_of_length_le (by omega)]; omega
      · rw [at0_set_ne _ _ _ _ e]; omega) a
    simp only [List.length_cons]
    omega
def shareOk (xs : List Int) (s : Int) : Bool := sharesB xs && inB s 0 9999
def ordX (xs : List Int) (s : Int) : List Int := ordS (shR xs s xs.sum) xs.length
/-- The parts when m of what is left are given. -/
def partK (xs : List Int) (s : Int) (m : Nat) : List Int := incAll (shQ xs s xs.sum) ((ordX xs s).take m)
def shareF (xs : List Int) (s : Int) : List Int := if shareOk xs s then partK xs s (leftS xs s).toNat else []
theorem shareF_no {xs : List Int} {s : Int} (h : shareOk xs s = false) : shareF xs s = [] := by simp [shareF, h]
theorem shareF_yes {xs : List Int} {s : Int} (h : shareOk xs s = true) : shareF xs s = partK xs s (leftS xs s).toNat := by simp [shareF, h]
theorem partK_zero (xs : List Int) (s : Int) : partK xs s 0 = shQ xs s xs.sum := by simp [partK, incAll]
theorem partK_length (xs : List Int) (s : Int) (m : Nat) : (partK xs s m).length = xs.length := by rw [partK, incAll_length, shQ_length]
theorem ordX_length (xs : List Int) (s : Int) : (ordX xs s).length = xs.length := ordS_length _ _
theorem partK_succ (xs : List Int) (s : Int) (m : Nat) (h : m < xs.length) : partK xs s (m + 1) = (partK xs s m).set (at0 (ordX xs s) m).toNat (at0 (partK xs s m) (at0 (ordX xs s) m).toNat + 1) := by
  have hl : m < (ordX xs s).length := by rw [ordX_length]; exact h
  rw [partK, List.take_succ_eq_append_getElem hl, incAll_app, at0_eq hl]; rfl
theorem share_parts {xs : List Int} {s : Int} (h : shareOk xs s = true) : (1 ≤ xs.length ∧ xs.length ≤ 7) ∧ (∀ k, 0 ≤ at0 xs k ∧ at0 xs k ≤ 20) ∧ 0 < xs.sum ∧ xs.sum ≤ 140 ∧ 0 ≤ s ∧ s ≤ 9999 := by
  simp only [shareOk, sharesB, Bool.and_eq_true, decide_eq_true_eq, inB_true, List.all_eq_true] at h
  obtain ⟨⟨h1, h2, h3⟩, h4⟩ := h
  have hb : ∀ x ∈ xs, 0 ≤ x ∧ x ≤ 20 := fun x hx => by have := h2 x hx; simp [okB] at this; exact this
  have h5 := sum_bound xs 20 (by omega) (fun x hx => by have := hb x hx; omega)
  refine ⟨by omega, fun k => ?_, h3, by omega, h4.1, h4.2⟩
  by_cases hk : k < xs.length
  · rw [← at0_eq hk]; exact hb _ (List.getElem_mem hk)
  · simp [at0, hk]
theorem prod_b {s x all : Int} (hs : 0 ≤ s ∧ s ≤ 9999) (hx : 0 ≤ x ∧ x ≤ 20) (ha : 0 < all) : 0 ≤ s * x ∧ s * x ≤ 199980 ∧ 0 ≤ s * x / all ∧ s * x / all ≤ 199980 ∧ 0 ≤ s * x % all ∧ s * x % all < all := by
  have h1 := Int.mul_nonneg hs.1 hx.1
  have h2 := Int.mul_le_mul hs.2 hx.2 hx.1 (by omega)
  have h3 := Int.ediv_nonneg h1 (show 0 ≤ all by omega)
  have h4 := Int.ediv_le_self all h1
  exact ⟨h1, by omega, h3, by omega, Int.emod_nonneg _ (by omega), Int.emod_lt_of_pos _ ha⟩
theorem partK_bound {xs : List Int} {s : Int} (h : shareOk xs s = true) (m : Nat) (hm : m ≤ xs.length) : ∀ a, 0 ≤ at0 (partK xs s m) a ∧ at0 (partK xs s m) a ≤ 200000 := by
  obtain ⟨h1, h2, h3, h4, h5⟩ := share_parts h
  intro a
  have hb := incAll_bound (shQ xs s xs.sum) ((ordX xs s).take m) 0 199980 (fun k => by
    by_cases hk : k < xs.length
    · rw [shQ_at _ _ _ _ hk]
      have := prod_b h5 (h2 k) h3
      omega
    · have : at0 (shQ xs s xs.sum) k = 0 := by simp [at0, shQ_length, hk]
      rw [this]; omega) a
  have hl : ((ordX xs s).take m).length ≤ 7 := by rw [List.length_take, ordX_length]; omega
  rw [partK]; omega
theorem shareF_len (xs : List Int) (s : Int) : (shareF xs s).length ≤ xs.length := by
  unfold shareF; split
  · rw [partK_length]; exact Nat.le_refl _
  · simp
end Go.Proofs.Ytgndokhehooplaa
