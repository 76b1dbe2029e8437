/- Burners: what BurnOk, BurnEnd, BurnList, BurnLeast compute, as plain functions on lists, and their laws. No program in sight. -/
import Derived.Test.YtjicpdleacnlaaaDoorSpans
set_option linter.unusedVariables false
set_option linter.unusedSimpArgs false
namespace Go.Proofs.YtjicpdleacnlaaaDoor

/-- What burner b has when the first n spans are put. -/
def load (xs on : List Int) (b : Int) : Nat → Int
  | 0 => 0
  | k + 1 => load xs on b k + (if at0 on k = b then at0 xs k else 0)
def loads (xs on : List Int) (m n : Nat) : List Int := (List.range m).map fun b : Nat => load xs on (b : Int) n
def burnB (xs : List Int) (m : Int) (on : List Int) : Bool := on.all (fun x => inB x 0 (m - 1)) && (spansB xs && (inB m 1 3 && decide (on.length = xs.length)))
/-- The greatest one of the first k numbers, 0 if there are none. -/
def top (l : List Int) : Nat → Int
  | 0 => 0
  | k + 1 => max (top l k) (at0 l k)
def bEnd (xs : List Int) (m : Int) (on : List Int) : Int := if burnB xs m on then top (loads xs on m.toNat xs.length) m.toNat else -1
theorem loads_length (xs on : List Int) (m n : Nat) : (loads xs on m n).length = m := by simp [loads]
theorem loads_at (xs on : List Int) (m n b : Nat) (h : b < m) : at0 (loads xs on m n) b = load xs on b n := by simp [loads, at0, h]
theorem burn_parts {xs : List Int} {m : Int} {on : List Int} (h : burnB xs m on = true) : (∀ x ∈ on, 0 ≤ x ∧ x ≤ m - 1) ∧ spansB xs = true ∧ (1 ≤ m ∧ m ≤ 3) ∧ on.length = xs.length := by
  simp only [burnB, Bool.and_eq_true, List.all_eq_true, inB_true, decide_eq_true_eq] at h
  exact ⟨h.1, h.2.1, h.2.2.1, h.2.2.2⟩
theorem burn_mk {xs : List Int} {m : Int} {on : List Int} (h1 : ∀ x ∈ on, 0 ≤ x ∧ x ≤ m - 1) (h2 : spansB xs = true) (h3 : 1 ≤ m ∧ m ≤ 3) (h4 : on.length = xs.length) : burnB xs m on = true := by
  simp only [burnB, Bool.and_eq_true, List.all_eq_true, inB_true, decide_eq_true_eq]
  exact ⟨h1, h2, h3, h4⟩
theorem bEnd_no {xs : List Int} {m : Int} {on : List Int} (h : burnB xs m on = false) : bEnd xs m on = -1 := by simp [bEnd, h]
theorem bEnd_yes {xs : List Int} {m : Int} {on : List Int} (h : burnB xs m on = true) : bEnd xs m on = top (loads xs on m.toNat xs.length) m.toNat := by simp [bEnd, h]
theorem load_bound {xs : List Int} (h : spansB xs = true) (on : List Int) (b : Int) : ∀ n, 0 ≤ load xs on b n ∧ load xs on b n ≤ 30 * n
  | 0 => by simp [load]
  | n + 1 => by
    have h1 := load_bound h on b n
    have h2 := spans_bound h n
    rw [load]; split <;> omega
theorem top_nonneg (l : List Int) : ∀ k, 0 ≤ top l k
  | 0 => Int.le_refl _
  | k + 1 => by have := top_nonneg l k; rw [top]; omega
theorem top_ge (l : List Int) : ∀ k j, j < k → at0 l j ≤ top l k
  | 0, j, h => by omega
  | k + 1, j, h => by
    rw [top]
    by_cases e : j = k
    · subst e; omega
    · have := top_ge l k j (by omega); omega
theorem top_le (l : List Int) (M : Int) (hM : 0 ≤ M) : ∀ k, (∀ j, j < k → at0 l j ≤ M) → top l k ≤ M
  | 0, _ => hM
  | k + 1, h => by
    have h1 := top_le l M hM k fun j hj => h j (by omega)
    have h2 := h k (by omega)
    rw [top]; omega
theorem top_hit (l : List Int) : ∀ k, top l k = 0 ∨ ∃ j, j < k ∧ top l k = at0 l j
  | 0 => .inl rfl
  | k + 1 => by
    rcases top_hit l k with h | ⟨j, hj, h⟩
    · rcases Int.le_total (top l k) (at0 l k) with h1 | h1
      · exact .inr ⟨k, by omega, by rw [top]; omega⟩
      · exact .inl (by rw [top]; omega)
    · rcases Int.le_total (top l k) (at0 l k) with h1 | h1
      · exact .inr ⟨k, by omega, by rw [top]; omega⟩
      · exact .inr ⟨j, by omega, by rw [top, ← h]; omega⟩
/-- All burners together. -/
def allL (l : List Int) : Nat → Int
  | 0 => 0
  | k + 1 => allL l k + at0 l k
theorem allL_le_top (l : List Int) (T : Int) : ∀ k, (∀ j, j < k → at0 l j ≤ T) → allL l k ≤ T * k
  | 0, _ => by simp [allL]
  | k + 1, h => by
    have h1 := allL_le_top l T k fun j hj => h j (by omega)
    have h2 := h k (by omega)
    rw [allL, show ((k + 1 : Nat) : Int) = (k : Int) + 1 by omega, Int.mul_add]; omega
theorem load_far {xs on : List Int} {n : Nat} {b : Int} (h : ∀ k, k < n → at0 on k ≠ b) : load xs on b n = 0 := by
  induction n with
  | zero => rfl
  | succ n ih => rw [load, ih fun k hk => h k (by omega), if_neg (h n (by omega))]; rfl
theorem loads_succ_sum (xs on : List Int) (n : Nat) : ∀ m : Nat, allL (loads xs on m (n + 1)) m = allL (loads xs on m n) m + (if 0 ≤ at0 on n ∧ at0 on n < m then at0 xs n else 0) := by
  have key : ∀ M m : Nat, m ≤ M → allL (loads xs on M (n + 1)) m = allL (loads xs on M n) m + (if 0 ≤ at0 on n ∧ at0 on n < m then at0 xs n else 0) := by
    intro M m
    induction m with
    | zero => intro _; simp [allL]; intro _ h; omega
    | succ m ih =>
      intro hm
      rw [allL, allL, ih (by omega), loads_at _ _ _ _ _ (by omega), loads_at _ _ _ _ _ (by omega), load]
      by_cases e : at0 on n = m
      · rw [if_pos e, if_neg (by omega), if_pos (by omega)]; omega
      · rw [if_neg e]
        by_cases h2 : 0 ≤ at0 on n ∧ at0 on n < m
        · rw [if_pos h2, if_pos (by omega)]; omega
        · rw [if_neg h2, if_neg (by omega)]; omega
  exact fun m => key m m (Nat.le_refl _)
theorem loads_zero_sum (xs on : List Int) (m : Nat) : allL (loads xs on m 0) m = 0 := by
  have key : ∀ M m : Nat, m ≤ M → allL (loads xs on M 0) m = 0 := by
    intro M m
    induction m with
    | zero => intro _; rfl
    | succ m ih => intro hm; rw [allL, ih (by omega), loads_at _ _ _ _ _ (by omega)]; rfl
  exact key m m (Nat.le_refl _)
theorem on_at {m : Int} {on : List Int} (h : ∀ x ∈ on, 0 ≤ x ∧ x ≤ m - 1) (k : Nat) (hk : k < on.length) : 0 ≤ at0 on k ∧ at0 on k ≤ m - 1 := h _ (at0_mem hk)
theorem sum_take (xs : List Int) (k : Nat) (hk : k < xs.length) : (xs.take (k + 1)).sum = (xs.take k).sum + at0 xs k := by rw [take_sum_succ xs k hk, at0_eq hk]
theorem loads_sum {xs on : List Int} {m : Nat} (h : ∀ x ∈ on, 0 ≤ x ∧ x ≤ (m : Int) - 1) (hl : on.length = xs.length) : ∀ n, n ≤ xs.length → allL (loads xs on m n) m = (xs.take n).sum
  | 0, _ => by rw [loads_zero_sum]; simp
  | n + 1, hn => by
    have := on_at h n (by omega)
    rw [loads_succ_sum, loads_sum h hl n (by omega), sum_take xs n (by omega), if_pos (by omega)]
/-- A list's end is at least every span, and all burners together hold all. -/
theorem end_facts {xs : List Int} {m : Int} {on : List Int} (h : burnB xs m on = true) : 0 ≤ bEnd xs m on ∧ (∀ k, k < xs.length → at0 xs k ≤ bEnd xs m on) ∧ xs.sum ≤ m * bEnd xs m on := by
  obtain ⟨h1, h2, h3, h4⟩ := burn_parts h
  obtain ⟨M, rfl⟩ : ∃ M : Nat, m = M := ⟨m.toNat, by omega⟩
  rw [bEnd_yes h, Int.toNat_natCast]
  refine ⟨top_nonneg _ _, fun k hk => ?_, ?_⟩
  · have hin := on_at h1 k (by omega)
    obtain ⟨b, hb⟩ : ∃ b : Nat, at0 on k = b := ⟨(at0 on k).toNat, by omega⟩
    have h5 := top_ge (loads xs on M xs.length) M b (by omega)
    rw [loads_at _ _ _ _ _ (by omega)] at h5
    have key : ∀ n, k < n → n ≤ xs.length → at0 xs k ≤ load xs on b n := by
      intro n
      induction n with
      | zero => omega
      | succ n ih =>
        intro hk2 hn
        rw [load]
        by_cases e : k = n
        · subst e
          rw [if_pos hb]
          have := (load_bound h2 on b k).1
          omega
        · have := ih (by omega) (by omega)
          have := spans_bound h2 n
          split <;> omega
    have := key xs.length hk (Nat.le_refl _)
    omega
  · have h5 := loads_sum h1 h4 xs.length (Nat.le_refl _)
    rw [List.take_length] at h5
    rw [← h5, Int.mul_comm]
    exact allL_le_top _ _ _ fun j hj => top_ge _ _ _ hj
/-! ### all lists, as numbers -/
def digs (m : Nat) : Nat → Nat → List Int
  | 0, _ => []
  | n + 1, v => ((v % m : Nat) : Int) :: digs m n (v / m)
theorem digs_length (m : Nat) : ∀ n v, (digs m n v).length = n
  | 0, _ => rfl
  | n + 1, v => by rw [digs, List.length_cons, digs_length]
theorem digs_in (m : Nat) (hm : 0 < m) : ∀ n v, ∀ x ∈ digs m n v, 0 ≤ x ∧ x ≤ (m : Int) - 1
  | 0, _, x, h => by simp [digs] at h
  | n + 1, v, x, h => by
    rw [digs] at h
    rcases List.mem_cons.1 h with rfl | h
    · have := Nat.mod_lt v hm; omega
    · exact digs_in m hm n _ x h
/-- Each list is one of a number. -/
theorem digs_all (m : Nat) (hm : 0 < m) : ∀ (n : Nat) (l : List Int), l.length = n → (∀ x ∈ l, 0 ≤ x ∧ x ≤ (m : Int) - 1) → ∃ v, v < m ^ n ∧ digs m n v = l
  | 0, l, hl, _ => ⟨0, by simp, by rw [List.eq_nil_of_length_eq_zero hl]; rfl⟩
  | n + 1, [], hl, _ => by simp at hl
  | n + 1, x :: l, hl, h => by
    obtain ⟨v, hv, e⟩ := digs_all m hm n l (by simpa using hl) fun y hy => h y (by simp [hy])
    obtain ⟨d, hd⟩ : ∃ d : Nat, x = d := ⟨x.toNat, by have := h x (by simp); omega⟩
    have hdm : d < m := by have := h x (by simp); omega
    refine ⟨d + m * v, ?_, ?_⟩
    · have h5 : m * (v + 1) ≤ m * m ^ n := Nat.mul_le_mul_left _ hv
      rw [Nat.mul_add] at h5
      rw [Nat.pow_succ, Nat.mul_comm (m ^ n) m]
      generalize m * m ^ n = N at *
      omega
    · rw [digs, Nat.add_mul_mod_self_left, Nat.mod_eq_of_lt hdm, Nat.add_mul_div_left _ _ hm, Nat.div_eq_of_lt hdm, Nat.zero_add, e, hd]
/-- The next list; whether there is one. -/
def nxt (m : Int) : List Int → List Int × Bool
  | [] => ([], false)
  | d :: t => if d + 1 < m then ((d + 1) :: t, true) else (0 :: (nxt m t).1, (nxt m t).2)
theorem nxt_digs (m : Nat) (hm : 0 < m) : ∀ n v, v < m ^ n → (v + 1 < m ^ n → nxt m (digs m n v) = (digs m n (v + 1), true)) ∧ (¬ v + 1 < m ^ n → (nxt m (digs m n v)).2 = false)
  | 0, v, hv => by
    simp at hv
    subst hv
    exact ⟨fun h => by simp at h, fun _ => rfl⟩
  | n + 1, v, hv => by
    have hv2 : v / m < m ^ n := Nat.div_lt_of_lt_mul (by rw [Nat.mul_comm, ← Nat.pow_succ]; exact hv)
    obtain ⟨i1, i2⟩ := nxt_digs m hm n (v / m) hv2
    have hdm := Nat.div_add_mod v m
    have hml := Nat.mod_lt v hm
    rw [digs, digs, nxt]
    by_cases hlt : v % m + 1 < m
    · have e1 : (v + 1) % m = v % m + 1 := by
        rw [Nat.add_mod, Nat.mod_eq_of_lt (show 1 < m by omega), Nat.mod_eq_of_lt hlt]
      have e2 : (v + 1) / m = v / m := by
        have := Nat.div_add_mod (v + 1) m
        rw [e1] at this
        have : m * ((v + 1) / m) = m * (v / m) := by omega
        exact Nat.eq_of_mul_eq_mul_left hm this
      have hlt' : (((v % m : Nat) : Int) + 1 < (m : Int)) := by omega
      have hin : v + 1 < m ^ (n + 1) := by
        have h5 : m * (v / m + 1) ≤ m ^ n * m := by rw [Nat.mul_comm]; exact Nat.mul_le_mul_right _ hv2
        rw [Nat.mul_add] at h5
        rw [Nat.pow_succ]
        generalize m ^ n * m = N at *
        generalize m * (v / m) = Q at *
        omega
      refine ⟨fun _ => ?_, fun h => absurd hin h⟩
      rw [if_pos hlt', e1, e2]
      rfl
    · have hme : v % m + 1 = m := by omega
      have e1 : (v + 1) % m = 0 := by
        have : v + 1 = m * (v / m + 1) := by rw [Nat.mul_add]; omega
        rw [this, Nat.mul_mod_right]
      have e2 : (v + 1) / m = v / m + 1 := by
        have : v + 1 = m * (v / m + 1) := by rw [Nat.mul_add]; omega
        rw [this, Nat.mul_div_cancel_left _ hm]
      have hlt' : ¬ (((v % m : Nat) : Int) + 1 < (m : Int)) := by omega
      have hiff : v + 1 < m ^ (n + 1) ↔ v / m + 1 < m ^ n := by
        have : v + 1 = m * (v / m + 1) := by rw [Nat.mul_add]; omega
        rw [this, Nat.pow_succ, Nat.mul_comm (m ^ n) m]
        exact Nat.mul_lt_mul_left hm
      refine ⟨fun h => ?_, fun h => ?_⟩
      · rw [if_neg hlt', i1 (hiff.1 h), e1, e2]
        rfl
      · rw [if_neg hlt']
        exact i2 (fun h2 => h (hiff.2 h2))
theorem digs_zero (m : Nat) : ∀ n, digs m n 0 = List.replicate n 0
  | 0 => rfl
  | n + 1 => by rw [digs, Nat.zero_mod, Nat.zero_div, digs_zero m n]; rfl
/-- The least end of the lists up to number t. -/
def lst (xs : List Int) (m : Nat) : Nat → Int
  | 0 => bEnd xs m (digs m xs.length 0)
  | t + 1 => min (lst xs m t) (bEnd xs m (digs m xs.length (t + 1)))
def okM (xs : List Int) (m : Int) : Bool := spansB xs && inB m 1 3
def leastB (xs : List Int) (m : Int) : Int := if okM xs m then lst xs m.toNat (m.toNat ^ xs.length - 1) else -1
theorem leastB_no {xs : List Int} {m : Int} (h : okM xs m = false) : leastB xs m = -1 := by simp [leastB, h]
theorem leastB_yes {xs : List Int} {m : Nat} (h : okM xs m = true) : leastB xs m = lst xs m (m ^ xs.length - 1) := by simp [leastB, h]
theorem okM_parts {xs : List Int} {m : Int} (h : okM xs m = true) : spansB xs = true ∧ 1 ≤ m ∧ m ≤ 3 := by
  simp only [okM, Bool.and_eq_true, inB_true] at h; exact h
theorem digs_burn {xs : List Int} {m : Nat} (h : okM xs m = true) (v : Nat) : burnB xs m (digs m xs.length v) = true := by
  obtain ⟨h1, h2⟩ := okM_parts h
  exact burn_mk (digs_in m (by omega) _ _) h1 (by omega) (digs_length _ _ _)
theorem lst_le (xs : List Int) (m : Nat) : ∀ t v, v ≤ t → lst xs m t ≤ bEnd xs m (digs m xs.length v)
  | 0, v, h => by rw [show v = 0 by omega]; exact Int.le_refl _
  | t + 1, v, h => by
    rw [lst]
    by_cases e : v = t + 1
    · subst e; omega
    · have := lst_le xs m t v (by omega); omega
theorem lst_hit (xs : List Int) (m : Nat) : ∀ t, ∃ v, v ≤ t ∧ lst xs m t = bEnd xs m (digs m xs.length v)
  | 0 => ⟨0, Nat.le_refl _, rfl⟩
  | t + 1 => by
    obtain ⟨v, hv, e⟩ := lst_hit xs m t
    rw [lst]
    rcases Int.le_total (lst xs m t) (bEnd xs m (digs m xs.length (t + 1))) with h | h
    · exact ⟨v, by omega, by rw [← e]; omega⟩
    · exact ⟨t + 1, Nat.le_refl _, by omega⟩
theorem least_le {xs : List Int} {m : Int} {on : List Int} (h : burnB xs m on = true) : leastB xs m ≤ bEnd xs m on := by
  obtain ⟨h1, h2, h3, h4⟩ := burn_parts h
  obtain ⟨M, rfl⟩ : ∃ M : Nat, m = M := ⟨m.toNat, by omega⟩
  have hk : okM xs M = true := by simp only [okM, Bool.and_eq_true, inB_true]; exact ⟨h2, h3⟩
  obtain ⟨v, hv, e⟩ := digs_all M (by omega) xs.length on h4 h1
  rw [leastB_yes hk, ← e]
  exact lst_le xs M _ v (by omega)
theorem least_hit {xs : List Int} {m : Int} (h : okM xs m = true) : ∃ on, burnB xs m on = true ∧ leastB xs m = bEnd xs m on := by
  obtain ⟨M, rfl⟩ : ∃ M : Nat, m = M := ⟨m.toNat, by have := okM_parts h; omega⟩
  obtain ⟨v, hv, e⟩ := lst_hit xs M (M ^ xs.length - 1)
  exact ⟨_, digs_burn h v, by rw [leastB_yes h]; exact e⟩
theorem least_nonneg {xs : List Int} {m : Int} (h : okM xs m = true) : 0 ≤ leastB xs m := by
  obtain ⟨on, h1, e⟩ := least_hit h
  rw [e]; exact (end_facts h1).1
/-! ### FnBurnLeast -/
theorem load_more (xs on : List Int) (m n : Nat) (h : ∀ x ∈ on, 0 ≤ x ∧ x ≤ (m : Int) - 1) (hn : n ≤ on.length) : load xs on m n = 0 :=
  load_far fun k hk => by have := on_at h k (by omega); omega
theorem top_congr (l l' : List Int) : ∀ k, (∀ j, j < k → at0 l j = at0 l' j) → top l k = top l' k
  | 0, _ => rfl
  | k + 1, h => by rw [top, top, top_congr l l' k fun j hj => h j (by omega), h k (by omega)]
theorem end_more {xs : List Int} {m : Nat} {on : List Int} (h : burnB xs m on = true) (hm : m + 1 ≤ 3) : burnB xs (m + 1 : Nat) on = true ∧ bEnd xs (m + 1 : Nat) on = bEnd xs m on := by
  obtain ⟨h1, h2, h3, h4⟩ := burn_parts h
  have hb : burnB xs (m + 1 : Nat) on = true := burn_mk (fun x hx => by have := h1 x hx; omega) h2 (by omega) h4
  refine ⟨hb, ?_⟩
  rw [bEnd_yes h, bEnd_yes hb, Int.toNat_natCast, Int.toNat_natCast, top, loads_at _ _ _ _ _ (by omega), load_more xs on m _ h1 (by omega)]
  rw [top_congr (loads xs on (m + 1) xs.length) (loads xs on m xs.length) m fun j hj => by rw [loads_at _ _ _ _ _ (by omega), loads_at _ _ _ _ _ hj]]
  have := top_nonneg (loads xs on m xs.length) m
  omega
theorem least_more {xs : List Int} {m : Nat} (h : okM xs m = true) (hm : m + 1 ≤ 3) : leastB xs ((m : Int) + 1) ≤ leastB xs m := by
  obtain ⟨on, h1, e⟩ := least_hit h
  obtain ⟨h2, h3⟩ := end_more h1 hm
  have := least_le h2
  rw [h3, ← e] at this
  exact this
theorem least_one {xs : List Int} (h : spansB xs = true) : leastB xs 1 = xs.sum := by
  have hk : okM xs 1 = true := by simp only [okM, Bool.and_eq_true, inB_true]; exact ⟨h, by omega⟩
  obtain ⟨on, h1, e⟩ := least_hit hk
  rw [e]
  obtain ⟨i1, i2, i3, i4⟩ := burn_parts h1
  have h0 := (end_facts h1).2.2
  have h5 := loads_sum (m := 1) (by simpa using i1) i4 xs.length (Nat.le_refl _)
  rw [List.take_length] at h5
  rw [bEnd_yes h1] at h0 ⊢
  simp only [Int.toNat_one, allL, top] at h0 h5 ⊢
  have h6 := (load_bound h on 0 xs.length).1
  have h7 := loads_at xs on 1 xs.length 0 (by omega)
  simp only [Int.natCast_zero] at h7
  omega
/-! ### BurnList -/
def argm (l : List Int) : Nat → Nat
  | 0 => 0
  | k + 1 => if at0 l (k + 1) < at0 l (argm l k) then k + 1 else argm l k
theorem argm_le (l : List Int) : ∀ k, argm l k ≤ k
  | 0 => Nat.le_refl _
  | k + 1 => by have := argm_le l k; rw [argm]; split <;> omega
theorem argm_least (l : List Int) : ∀ k j, j ≤ k → at0 l (argm l k) ≤ at0 l j
  | 0, j, h => by rw [show j = 0 by omega]; exact Int.le_refl _
  | k + 1, j, h => by
    rw [argm]
    by_cases e : j = k + 1
    · subst e; split <;> omega
    · have := argm_least l k j (by omega)
      split <;> omega
/-- The list and what the burners have, when the first k spans are put. -/
def grd (xs : List Int) (m : Nat) : Nat → List Int × List Int
  | 0 => ([], List.replicate m 0)
  | k + 1 => ((grd xs m k).1 ++ [((argm (grd xs m k).2 (m - 1) : Nat) : Int)], (grd xs m k).2.set (argm (grd xs m k).2 (m - 1)) (at0 (grd xs m k).2 (argm (grd xs m k).2 (m - 1)) + at0 xs k))
def listF (xs : List Int) (m : Int) : List Int := if okM xs m then (grd xs m.toNat xs.length).1 else []
theorem listF_no {xs : List Int} {m : Int} (h : okM xs m = false) : listF xs m = [] := by simp [listF, h]
theorem listF_yes {xs : List Int} {m : Nat} (h : okM xs m = true) : listF xs m = (grd xs m xs.length).1 := by simp [listF, h]
theorem grd_len (xs : List Int) (m : Nat) : ∀ k, (grd xs m k).1.length = k ∧ (grd xs m k).2.length = m
  | 0 => by simp [grd]
  | k + 1 => by have := grd_len xs m k; simp [grd, this.1, this.2]
theorem listF_len (xs : List Int) (m : Int) : (listF xs m).length ≤ xs.length := by
  unfold listF; split
  · rw [(grd_len xs _ _).1]; exact Nat.le_refl _
  · simp
theorem grd_in (xs : List Int) (m : Nat) (hm : 0 < m) : ∀ k, ∀ x ∈ (grd xs m k).1, 0 ≤ x ∧ x ≤ (m : Int) - 1
  | 0, x, h => by simp [grd] at h
  | k + 1, x, h => by
    simp only [grd] at h
    rcases List.mem_append.1 h with h | h
    · exact grd_in xs m hm k x h
    · have := argm_le (grd xs m k).2 (m - 1)
      rw [List.mem_singleton.1 h]; omega
theorem grd_on (xs : List Int) (m : Nat) (hm : 0 < m) : ∀ k j, j < k → ∀ n, k ≤ n → at0 (grd xs m n).1 j = at0 (grd xs m k).1 j := by
  intro k j hj n hn
  induction n with
  | zero => omega
  | succ n ih =>
    by_cases e : k = n + 1
    · subst e; rfl
    · rw [← ih (by omega)]
      have hl := (grd_len xs m n).1
      simp only [grd]
      simp only [at0, List.getD_eq_getElem?_getD]
      rw [List.getElem?_append_left (by omega)]
theorem load_congr (xs on on' : List Int) (b : Int) : ∀ n, (∀ j, j < n → at0 on j = at0 on' j) → load xs on b n = load xs on' b n
  | 0, _ => rfl
  | n + 1, h => by rw [load, load, load_congr xs on on' b n fun j hj => h j (by omega), h n (by omega)]
theorem grd_at (xs : List Int) (m k : Nat) : at0 (grd xs m (k + 1)).1 k = argm (grd xs m k).2 (m - 1) := by
  have hl := (grd_len xs m k).1
  simp only [grd, at0, List.getD_eq_getElem?_getD]
  rw [List.getElem?_append_right (by omega), hl]; simp
/-- What the burners have is what the list has put on them. -/
theorem grd_load (xs : List Int) (m : Nat) (hm : 0 < m) : ∀ k b, b < m → at0 (grd xs m k).2 b = load xs (grd xs m k).1 b k
  | 0, b, hb => by simp [grd, load, at0, hb]
  | k + 1, b, hb => by
    have hl := (grd_len xs m k).2
    have ha := argm_le (grd xs m k).2 (m - 1)
    rw [load, grd_at, load_congr xs (grd xs m (k + 1)).1 (grd xs m k).1 b k fun j hj => grd_on xs m hm k j hj (k + 1) (by omega), ← grd_load xs m hm k b hb]
    simp only [grd]
    by_cases e : argm (grd xs m k).2 (m - 1) = b
    · rw [e, at0_set_eq _ _ _ (by omega), if_pos rfl]
    · rw [at0_set_ne _ _ _ _ e, if_neg (by omega)]; omega
theorem allL_congr (l l' : List Int) : ∀ k, (∀ j, j < k → at0 l j = at0 l' j) → allL l k = allL l' k
  | 0, _ => rfl
  | k + 1, h => by rw [allL, allL, allL_congr l l' k fun j hj => h j (by omega), h k (by omega)]
theorem allL_ge (l : List Int) (T : Int) : ∀ k, (∀ j, j < k → T ≤ at0 l j) → T * k ≤ allL l k
  | 0, _ => by simp [allL]
  | k + 1, h => by
    have h1 := allL_ge l T k fun j hj => h j (by omega)
    have h2 := h k (by omega)
    rw [allL, show ((k + 1 : Nat) : Int) = (k : Int) + 1 by omega, Int.mul_add]; omega
/-- Whatever a burner has, the span that was put on it last began when all the others were still busy. -/
theorem grd_bound {xs : List Int} (h : spansB xs = true) (m : Nat) (hm : 0 < m) (P : Int) (hP : 0 ≤ P) (hp : ∀ k, at0 xs k ≤ P) : ∀ k, k ≤ xs.length → ∀ b, b < m → (m : Int) * at0 (grd xs m k).2 b ≤ (xs.take k).sum + ((m : Int) - 1) * P
  | 0, _, b, hb => by
    have : at0 (grd xs m 0).2 b = 0 := by simp [grd, at0, hb]
    rw [this]
    have := Int.mul_nonneg (show (0 : Int) ≤ (m : Int) - 1 by omega) hP
    simp; omega
  | k + 1, hk, b, hb => by
    have ih := grd_bound h m hm P hP hp k (by omega) b hb
    have hx := spans_bound h k
    have hl := (grd_len xs m k).2
    have ha := argm_le (grd xs m k).2 (m - 1)
    rw [sum_take xs k (by omega)]
    simp only [grd]
    by_cases e : argm (grd xs m k).2 (m - 1) = b
    · rw [e, at0_set_eq _ _ _ (by omega)]
      have hmin : ∀ j, j < m → at0 (grd xs m k).2 b ≤ at0 (grd xs m k).2 j := fun j hj => by
        have := argm_least (grd xs m k).2 (m - 1) j (by omega)
        rwa [e] at this
      have h1 := allL_ge (grd xs m k).2 (at0 (grd xs m k).2 b) m hmin
      have h2 : allL (grd xs m k).2 m = (xs.take k).sum := by
        have h3 := loads_sum (xs := xs.take k) (on := (grd xs m k).1) (m := m) (grd_in xs m hm k) (by rw [(grd_len xs m k).1, List.length_take]; omega) k (by rw [List.length_take]; omega)
        rw [List.take_take, Nat.min_self] at h3
        rw [← h3]
        refine allL_congr _ _ _ fun j hj => ?_
        rw [loads_at _ _ _ _ _ hj, grd_load xs m hm k j hj]
        have hgen : ∀ n, n ≤ k → load xs (grd xs m k).1 j n = load (xs.take k) (grd xs m k).1 j n := by
          intro n
          induction n with
          | zero => intro _; rfl
          | succ n ihn =>
            intro hn
            have e3 : at0 (xs.take k) n = at0 xs n := by simp [at0, List.getD_eq_getElem?_getD, List.getElem?_take, show n < k by omega]
            rw [load, load, ihn (by omega), e3]
        exact hgen k (Nat.le_refl _)
      rw [h2, Int.mul_comm] at h1
      have h4 := hp k
      have h5 : (m : Int) * at0 xs k = at0 xs k + ((m : Int) - 1) * at0 xs k := by rw [Int.sub_mul]; omega
      have h6 : ((m : Int) - 1) * at0 xs k ≤ ((m : Int) - 1) * P := Int.mul_le_mul_of_nonneg_left h4 (by omega)
      rw [Int.mul_add]
      omega
    · rw [at0_set_ne _ _ _ _ e]; omega
theorem span_top {xs : List Int} (h : spansB xs = true) : ∃ P, 0 ≤ P ∧ (∀ k, at0 xs k ≤ P) ∧ (P = 0 ∨ ∃ k, k < xs.length ∧ P = at0 xs k) := by
  refine ⟨top xs xs.length, top_nonneg _ _, fun k => ?_, top_hit _ _⟩
  by_cases hk : k < xs.length
  · exact top_ge _ _ _ hk
  · have : at0 xs k = 0 := by simp [at0, Nat.le_of_not_lt hk]
    have := top_nonneg xs xs.length
    omega
/-- With m burners the list's end, times m, is at most the least one times 2 m - 1. -/
theorem list_law {xs : List Int} {m : Nat} (h : okM xs m = true) : burnB xs m (listF xs m) = true ∧ bEnd xs m (listF xs m) * (m : Int) ≤ leastB xs m * (2 * (m : Int) - 1) := by
  obtain ⟨h1, h2, h3⟩ := okM_parts h
  have hm : 0 < m := by omega
  have hl := (grd_len xs m xs.length).1
  have hb : burnB xs m (listF xs m) = true := by
    rw [listF_yes h]
    exact burn_mk (grd_in xs m hm _) h1 (by omega) hl
  refine ⟨hb, ?_⟩
  obtain ⟨P, hP, hp, hpe⟩ := span_top h1
  obtain ⟨on, ho, e⟩ := least_hit h
  obtain ⟨f1, f2, f3⟩ := end_facts ho
  rw [← e] at f1 f2 f3
  have hPL : P ≤ leastB xs m := by
    rcases hpe with h4 | ⟨k, hk, h4⟩
    · omega
    · rw [h4]; exact f2 k hk
  rw [bEnd_yes hb, Int.toNat_natCast]
  have hgl : ∀ b, b < m → at0 (loads xs (listF xs m) m xs.length) b = at0 (grd xs m xs.length).2 b := fun b hb' => by
    rw [loads_at _ _ _ _ _ hb', grd_load xs m hm _ b hb', listF_yes h]
  have hgb := grd_bound h1 m hm P hP hp xs.length (Nat.le_refl _)
  rw [List.take_length] at hgb
  have h6 : ((m : Int) - 1) * P ≤ ((m : Int) - 1) * leastB xs m := Int.mul_le_mul_of_nonneg_left hPL (by omega)
  have h7 : leastB xs m * (2 * (m : Int) - 1) = (m : Int) * leastB xs m + ((m : Int) - 1) * leastB xs m := by
    rw [← Int.add_mul, Int.mul_comm]; congr 1; omega
  rcases top_hit (loads xs (listF xs m) m xs.length) m with h8 | ⟨j, hj, h8⟩
  · rw [h8, h7]
    have := Int.mul_nonneg (show (0 : Int) ≤ (m : Int) - 1 by omega) f1
    have := Int.mul_nonneg (show (0 : Int) ≤ (m : Int) by omega) f1
    omega
  · rw [h8, hgl j hj, h7, Int.mul_comm]
    have := hgb j hj
    omega
end Go.Proofs.YtjicpdleacnlaaaDoor
