/- Tasks: the plain laws of the times (TasksEnd, StartsEarly, StartsLate, StartsOk, TasksValid). No program in sight. -/
import Derived.Test.YtgndokhehooplaaTaskP
set_option linter.unusedVariables false
set_option linter.unusedSimpArgs false
namespace Go.Proofs.Ytgndokhehooplaa
open Go.ChangeShapes Go.WideShapes Go.ChangeAt Go.RowKit

/-! ### what is waited for -/
/-- The j-th of those that zs names. -/
def afA (zs : List Int) (j : Nat) : Nat := (at0 zs j).toNat
def wOk (ts : List TskP) (xs : List Int) (i : Nat) (zs : List Int) (j : Nat) : Bool := decide (at0 xs (afA zs j) + (tat ts (afA zs j)).1 ≤ at0 xs i)
def wUpTo (ts : List TskP) (xs : List Int) (i : Nat) (zs : List Int) (n : Nat) : Bool := (List.range n).all (wOk ts xs i zs)
def stUpTo (ts : List TskP) (xs : List Int) (n : Nat) : Bool := (List.range n).all fun i => wUpTo ts xs i (tat ts i).2 (tat ts i).2.length
def startsB (ts : List TskP) (xs : List Int) : Bool := tasksB ts && amtB xs ts.length 9999 && stUpTo ts xs ts.length
theorem wUpTo_succ (ts : List TskP) (xs : List Int) (i : Nat) (zs : List Int) (n : Nat) : wUpTo ts xs i zs (n + 1) = (wUpTo ts xs i zs n && wOk ts xs i zs n) := by simp [wUpTo, List.range_succ]
theorem stUpTo_succ (ts : List TskP) (xs : List Int) (n : Nat) : stUpTo ts xs (n + 1) = (stUpTo ts xs n && wUpTo ts xs n (tat ts n).2 (tat ts n).2.length) := by simp [stUpTo, List.range_succ]
theorem wUpTo_false {ts : List TskP} {xs : List Int} {i : Nat} {zs : List Int} {k n : Nat} (h : wOk ts xs i zs k = false) (hk : k < n) : wUpTo ts xs i zs n = false := by
  rw [wUpTo, List.all_eq_false]
  exact ⟨k, List.mem_range.2 hk, by simp [h]⟩
theorem stUpTo_false {ts : List TskP} {xs : List Int} {k n : Nat} (h : wUpTo ts xs k (tat ts k).2 (tat ts k).2.length = false) (hk : k < n) : stUpTo ts xs n = false := by
  rw [stUpTo, List.all_eq_false]
  exact ⟨k, List.mem_range.2 hk, by simp [h]⟩
theorem afA_lt {ts : List TskP} (h : tasksB ts = true) {i : Nat} (hi : i < ts.length) {j : Nat} (hj : j < (tat ts i).2.length) : afA (tat ts i).2 j < i := by
  have := task_after h i hi j hj
  unfold afA; omega
theorem amt_all {xs : List Int} {m g : Int} (h : amtB xs m g = true) : (xs.length : Int) = m ∧ ∀ k, k < xs.length → 0 ≤ at0 xs k ∧ at0 xs k ≤ g := by
  simp only [amtB, Bool.and_eq_true, decide_eq_true_eq, List.all_eq_true] at h
  refine ⟨h.1, fun k hk => ?_⟩
  have := h.2 xs[k] (List.getElem_mem hk)
  simp only [okB, Bool.and_eq_true, decide_eq_true_eq] at this
  rwa [at0_eq hk] at this
theorem amt_mk {xs : List Int} {m g : Int} (h1 : (xs.length : Int) = m) (h2 : ∀ k, k < xs.length → 0 ≤ at0 xs k ∧ at0 xs k ≤ g) : amtB xs m g = true := by
  simp only [amtB, Bool.and_eq_true, decide_eq_true_eq, List.all_eq_true]
  refine ⟨h1, fun x hx => ?_⟩
  obtain ⟨k, hk, rfl⟩ := List.getElem_of_mem hx
  simp only [okB, Bool.and_eq_true, decide_eq_true_eq]
  rw [at0_eq hk]
  exact h2 k hk
theorem st_parts {ts : List TskP} {xs : List Int} (h : startsB ts xs = true) : tasksB ts = true ∧ xs.length = ts.length ∧ (∀ k, k < xs.length → 0 ≤ at0 xs k ∧ at0 xs k ≤ 9999) ∧
    ∀ i, i < ts.length → ∀ j, j < (tat ts i).2.length → at0 xs (afA (tat ts i).2 j) + (tat ts (afA (tat ts i).2 j)).1 ≤ at0 xs i := by
  simp only [startsB, Bool.and_eq_true] at h
  obtain ⟨⟨h1, h2⟩, h3⟩ := h
  obtain ⟨h4, h5⟩ := amt_all h2
  refine ⟨h1, by omega, h5, fun i hi j hj => ?_⟩
  simp only [stUpTo, List.all_eq_true, List.mem_range, wUpTo, wOk, decide_eq_true_eq] at h3
  exact h3 i hi j hj
theorem st_mk {ts : List TskP} {xs : List Int} (h1 : tasksB ts = true) (h2 : xs.length = ts.length) (h3 : ∀ k, k < xs.length → 0 ≤ at0 xs k ∧ at0 xs k ≤ 9999)
    (h4 : ∀ i, i < ts.length → ∀ j, j < (tat ts i).2.length → at0 xs (afA (tat ts i).2 j) + (tat ts (afA (tat ts i).2 j)).1 ≤ at0 xs i) : startsB ts xs = true := by
  simp only [startsB, Bool.and_eq_true]
  refine ⟨⟨h1, amt_mk (by omega) h3⟩, ?_⟩
  simp only [stUpTo, List.all_eq_true, List.mem_range, wUpTo, wOk, decide_eq_true_eq]
  exact h4

/-! ### the earliest times -/
theorem stF_ge (ts : List TskP) (es zs : List Int) : ∀ n j, j < n → at0 es (afA zs j) + (tat ts (afA zs j)).1 ≤ stF ts es zs n
  | 0, j, h => by omega
  | n + 1, j, h => by
    rw [stF]
    by_cases e : j = n
    · subst e; unfold afA; omega
    · have := stF_ge ts es zs n j (by omega); omega
theorem stF_is (ts : List TskP) (es zs : List Int) : ∀ n, stF ts es zs n = 0 ∨ ∃ j, j < n ∧ stF ts es zs n = at0 es (afA zs j) + (tat ts (afA zs j)).1
  | 0 => .inl rfl
  | n + 1 => by
    rw [stF]
    rcases stF_is ts es zs n with h | ⟨j, hj, h⟩
    · rw [h]
      by_cases e : at0 es (at0 zs n).toNat + (tat ts (at0 zs n).toNat).1 ≤ 0
      · exact .inl (by omega)
      · exact .inr ⟨n, by omega, by unfold afA; omega⟩
    · rw [h]
      by_cases e : at0 es (at0 zs n).toNat + (tat ts (at0 zs n).toNat).1 ≤ at0 es (afA zs j) + (tat ts (afA zs j)).1
      · exact .inr ⟨j, by omega, by omega⟩
      · exact .inr ⟨n, by omega, by unfold afA at *; omega⟩
/-- What the earliest times are, told with the whole list. -/
theorem early_ok {ts : List TskP} (h : tasksB ts = true) (i : Nat) (hi : i < ts.length) (j : Nat) (hj : j < (tat ts i).2.length) :
    at0 (early ts ts.length) (afA (tat ts i).2 j) + (tat ts (afA (tat ts i).2 j)).1 ≤ at0 (early ts ts.length) i := by
  have hlt := afA_lt h hi hj
  rw [early_at ts i ts.length hi, early_prefix ts _ ts.length i (by omega) hlt]
  exact stF_ge ts _ _ _ j hj
theorem early_is {ts : List TskP} (h : tasksB ts = true) (i : Nat) (hi : i < ts.length) : at0 (early ts ts.length) i = 0 ∨
    ∃ j, j < (tat ts i).2.length ∧ at0 (early ts ts.length) i = at0 (early ts ts.length) (afA (tat ts i).2 j) + (tat ts (afA (tat ts i).2 j)).1 := by
  rw [early_at ts i ts.length hi]
  rcases stF_is ts (early ts i) (tat ts i).2 (tat ts i).2.length with e | ⟨j, hj, e⟩
  · exact .inl e
  · refine .inr ⟨j, hj, ?_⟩
    rw [e, early_prefix ts _ i ts.length (afA_lt h hi hj) (by have := afA_lt h hi hj; omega)]
theorem early_starts {ts : List TskP} (h : tasksB ts = true) : startsB ts (early ts ts.length) = true :=
  st_mk h (early_length ts _) (fun k hk => by have := early_bound h ts.length k; have := tasks_len h; omega) (early_ok h)
theorem early_least {ts : List TskP} {xs : List Int} (h : startsB ts xs = true) : ∀ k, k < ts.length → at0 (early ts ts.length) k ≤ at0 xs k := by
  obtain ⟨h1, h2, h3, h4⟩ := st_parts h
  intro k
  induction k using Nat.strongRecOn with
  | _ k ih =>
    intro hk
    rcases early_is h1 k hk with e | ⟨j, hj, e⟩
    · rw [e]; exact (h3 k (by omega)).1
    · rw [e]
      have := ih _ (afA_lt h1 hk hj) (by have := afA_lt h1 hk hj; omega)
      have := h4 k hk j hj
      omega
/-- No task could begin a minute earlier. -/
theorem early_less {ts : List TskP} (h : tasksB ts = true) (k : Nat) (hk : k < ts.length) : startsB ts ((early ts ts.length).set k (at0 (early ts ts.length) k - 1)) = false := by
  rw [Bool.eq_false_iff]
  intro hs
  have h1 := early_least hs k hk
  rw [at0_set_eq _ _ _ (by rw [early_length]; exact hk)] at h1
  omega

/-! ### the end -/
theorem endT_ge (ts : List TskP) (es : List Int) : ∀ n k, k < n → at0 es k + (tat ts k).1 ≤ endT ts es n
  | 0, k, h => by omega
  | n + 1, k, h => by
    rw [endT]
    by_cases e : k = n
    · subst e; omega
    · have := endT_ge ts es n k (by omega); omega
theorem endT_is {ts : List TskP} {es : List Int} (hb : ∀ k, 0 ≤ at0 es k ∧ 0 ≤ (tat ts k).1) : ∀ n, 0 < n → ∃ k, k < n ∧ endT ts es n = at0 es k + (tat ts k).1
  | 0, h => by omega
  | n + 1, _ => by
    rw [endT]
    have hn := hb n
    rcases Nat.eq_zero_or_pos n with e | e
    · subst e
      exact ⟨0, by omega, by rw [endT]; omega⟩
    · obtain ⟨k, hk, e⟩ := endT_is hb n e
      by_cases hle : at0 es n + (tat ts n).1 ≤ endT ts es n
      · exact ⟨k, by omega, by omega⟩
      · exact ⟨n, by omega, by omega⟩
theorem end_ge {ts : List TskP} (h : tasksB ts = true) (k : Nat) (hk : k < ts.length) : at0 (early ts ts.length) k + (tat ts k).1 ≤ endF ts := by
  rw [endF_yes h]
  exact endT_ge ts (early ts ts.length) ts.length k hk
theorem end_is {ts : List TskP} (h : tasksB ts = true) (hp : 0 < ts.length) : ∃ k, k < ts.length ∧ endF ts = at0 (early ts ts.length) k + (tat ts k).1 := by
  rw [endF_yes h]
  exact endT_is (fun k => ⟨(early_bound h ts.length k).1, (task_span h k).1⟩) _ hp
theorem end_span {ts : List TskP} (h : tasksB ts = true) (k : Nat) (hk : k < ts.length) : (tat ts k).1 ≤ endF ts := by
  have h1 := end_ge h k hk
  have h2 := (early_bound h ts.length k).1
  omega
/-- The spans of the first k tasks together. -/
def spS (ts : List TskP) (k : Nat) : Int := ((List.range k).map fun i => (tat ts i).1).sum
theorem spS_succ (ts : List TskP) (k : Nat) : spS ts (k + 1) = spS ts k + (tat ts k).1 := by simp [spS, List.range_succ]
theorem spS_mono {ts : List TskP} (h : tasksB ts = true) (a : Nat) : ∀ b, a ≤ b → spS ts a ≤ spS ts b
  | 0, hb => by rw [show a = 0 by omega]; exact Int.le_refl _
  | b + 1, hb => by
    by_cases e : a = b + 1
    · rw [e]; exact Int.le_refl _
    · have h1 := spS_mono h a b (by omega)
      have h2 := (task_span h b).1
      rw [spS_succ]; omega
theorem spS_bound {ts : List TskP} (h : tasksB ts = true) : ∀ k, 0 ≤ spS ts k ∧ spS ts k ≤ 30 * k
  | 0 => by simp [spS]
  | k + 1 => by
    have h1 := spS_bound h k
    have h2 := task_span h k
    rw [spS_succ]; omega
theorem early_sum {ts : List TskP} (h : tasksB ts = true) : ∀ k, k < ts.length → at0 (early ts ts.length) k ≤ spS ts k := by
  intro k
  induction k using Nat.strongRecOn with
  | _ k ih =>
    intro hk
    rcases early_is h k hk with e | ⟨j, hj, e⟩
    · rw [e]; exact (spS_bound h k).1
    · rw [e]
      have hl := afA_lt h hk hj
      have h1 := ih _ hl (by omega)
      have h2 := spS_mono h (afA (tat ts k).2 j + 1) k hl
      rw [spS_succ] at h2
      omega
theorem end_sum {ts : List TskP} (h : tasksB ts = true) : endF ts ≤ spS ts ts.length := by
  rcases Nat.eq_zero_or_pos ts.length with e | e
  · rw [endF_yes h, e]; simp [endT, spS]
  · obtain ⟨k, hk, e⟩ := end_is h e
    rw [e]
    have h1 := early_sum h k hk
    have h2 := spS_mono h (k + 1) ts.length hk
    rw [spS_succ] at h2
    omega
/-! ### without the last tasks -/
theorem tat_take {ts : List TskP} {n k : Nat} (h : k < n) : tat (ts.take n) k = tat ts k := by
  simp only [tat, List.getD_eq_getElem?_getD, List.getElem?_take, h, if_true]
theorem tasks_take {ts : List TskP} (h : tasksB ts = true) (n : Nat) (hn : n ≤ ts.length) : tasksB (ts.take n) = true := by
  have h7 := tasks_len h
  have hl : (ts.take n).length = n := by rw [List.length_take]; omega
  simp only [tasksB, Bool.and_eq_true, decide_eq_true_eq, tUpTo, List.all_eq_true, List.mem_range]
  rw [hl]
  refine ⟨fun k hk => ?_, by omega⟩
  rw [tat_take hk]
  exact tasks_at h k (by omega)
theorem stF_take {ts : List TskP} {n : Nat} (es zs : List Int) (hz : ∀ j, j < zs.length → afA zs j < n) : ∀ m, m ≤ zs.length → stF (ts.take n) es zs m = stF ts es zs m
  | 0, _ => rfl
  | m + 1, h => by
    rw [stF, stF, stF_take es zs hz m (by omega)]
    have := hz m (by omega)
    unfold afA at this
    rw [tat_take this]
theorem early_take {ts : List TskP} (h : tasksB ts = true) (n : Nat) (hn : n ≤ ts.length) : ∀ k, k ≤ n → early (ts.take n) k = early ts k
  | 0, _ => rfl
  | k + 1, hk => by
    rw [early, early, early_take h n hn k (by omega), tat_take (by omega)]
    rw [stF_take _ _ (fun j hj => by have := afA_lt h (i := k) (by omega) hj; omega) _ (Nat.le_refl _)]
theorem endT_take {ts : List TskP} {n : Nat} (es : List Int) : ∀ k, k ≤ n → endT (ts.take n) es k = endT ts es k
  | 0, _ => rfl
  | k + 1, hk => by rw [endT, endT, endT_take es k (by omega), tat_take (by omega)]
theorem endT_mono (ts : List TskP) (es : List Int) (a : Nat) : ∀ b, a ≤ b → endT ts es a ≤ endT ts es b
  | 0, hb => by rw [show a = 0 by omega]; exact Int.le_refl _
  | b + 1, hb => by
    by_cases e : a = b + 1
    · rw [e]; exact Int.le_refl _
    · have := endT_mono ts es a b (by omega)
      rw [endT]; omega
theorem endT_early (ts : List TskP) (n m : Nat) : ∀ k, k ≤ n → k ≤ m → endT ts (early ts n) k = endT ts (early ts m) k
  | 0, _, _ => rfl
  | k + 1, h1, h2 => by rw [endT, endT, endT_early ts n m k (by omega) (by omega), early_prefix ts k n m (by omega) (by omega)]
theorem end_take {ts : List TskP} (h : tasksB ts = true) (n : Nat) (hn : n ≤ ts.length) : endF (ts.take n) ≤ endF ts := by
  have hl : (ts.take n).length = n := by rw [List.length_take]; omega
  rw [endF_yes h, endF_yes (tasks_take h n hn), hl, early_take h n hn n (Nat.le_refl _), endT_take _ n (Nat.le_refl _), endT_early ts n ts.length n (Nat.le_refl _) hn]
  exact endT_mono ts _ n _ hn
theorem tasks_more {ts : List TskP} {s : Int} : tasksB (ts ++ [(s, [(ts.length : Int)])]) = false := by
  refine tasks_bad (k := ts.length) (by simp) ?_
  have e : tat (ts ++ [(s, [(ts.length : Int)])]) ts.length = (s, [(ts.length : Int)]) := by simp [tat]
  rw [e, tOk, afUpTo_false (k := 0) (by simp [afP, at0, prv]) (by simp)]
  simp

/-! ### the latest times -/
theorem pull_le (ts : List TskP) (i : Nat) (zs L : List Int) : ∀ j a, at0 (pull ts i zs L j) a ≤ at0 L a
  | 0, a => Int.le_refl _
  | j + 1, a => by
    have h1 := pull_le ts i zs L j a
    rw [pull]
    by_cases e : (at0 zs j).toNat = a
    · subst e
      by_cases hl : (at0 zs j).toNat < (pull ts i zs L j).length
      · rw [at0_set_eq _ _ _ hl]; omega
      · rw [List.set_eq_of_length_le (by omega)]; exact h1
    · rw [at0_set_ne _ _ _ _ e]; exact h1
theorem pull_same (ts : List TskP) (i : Nat) (zs L : List Int) (b : Nat) : ∀ j, (∀ j', j' < j → afA zs j' ≠ b) → at0 (pull ts i zs L j) b = at0 L b
  | 0, _ => rfl
  | j + 1, h => by
    have h1 := pull_same ts i zs L b j (fun j' hj' => h j' (by omega))
    have h2 := h j (by omega)
    unfold afA at h2
    rw [pull, at0_set_ne _ _ _ _ h2]; exact h1
theorem pull_ok (ts : List TskP) (i : Nat) (zs L : List Int) (hz : ∀ j, j < zs.length → afA zs j < i) (hi : i < L.length) : ∀ n, n ≤ zs.length → ∀ j, j < n → at0 (pull ts i zs L n) (afA zs j) ≤ at0 L i - (tat ts (afA zs j)).1
  | 0, _, j, hj => by omega
  | n + 1, hn, j, hj => by
    have hs := pull_same ts i zs L i n (fun j' hj' => by have := hz j' (by omega); omega)
    rw [pull]
    by_cases e : (at0 zs n).toNat = afA zs j
    · rw [e, at0_set_eq _ _ _ (by rw [pull_length]; have := hz j (by omega); omega)]
      omega
    · rw [at0_set_ne _ _ _ _ e]
      have : j ≠ n := fun hh => e (by subst hh; rfl)
      exact pull_ok ts i zs L hz hi n (by omega) j (by omega)
theorem pull_ge (ts : List TskP) (i : Nat) (zs L X : List Int) (hX : ∀ j, j < zs.length → at0 X (afA zs j) + (tat ts (afA zs j)).1 ≤ at0 X i) (hL : ∀ a, a < L.length → at0 X a ≤ at0 L a) (hi : i < L.length) :
    ∀ n, n ≤ zs.length → ∀ a, a < L.length → at0 X a ≤ at0 (pull ts i zs L n) a
  | 0, _, a, ha => hL a ha
  | n + 1, hn, a, ha => by
    have h1 := pull_ge ts i zs L X hX hL hi n (by omega)
    rw [pull]
    by_cases e : (at0 zs n).toNat = a
    · subst e
      rw [at0_set_eq _ _ _ (by rw [pull_length]; exact ha)]
      have h2 := h1 _ ha
      have h3 := h1 i hi
      have h4 := hX n (by omega)
      unfold afA at h4
      omega
    · rw [at0_set_ne _ _ _ _ e]; exact h1 a ha
theorem lateK_ge {ts : List TskP} (X : List Int) (hX : ∀ i, i < ts.length → ∀ j, j < (tat ts i).2.length → at0 X (afA (tat ts i).2 j) + (tat ts (afA (tat ts i).2 j)).1 ≤ at0 X i) (h0 : ∀ a, a < ts.length → at0 X a + (tat ts a).1 ≤ endF ts) :
    ∀ k, k ≤ ts.length → ∀ a, a < ts.length → at0 X a ≤ at0 (lateK ts k) a
  | 0, _, a, ha => by
    have : at0 (late0 ts ts.length) a = endF ts - (tat ts a).1 := by
      rw [← at0_eq (by rw [late0_length]; exact ha)]; simp [late0]
    rw [lateK, this]
    have := h0 a ha; omega
  | k + 1, hk, a, ha => by
    rw [lateK]
    exact pull_ge ts _ _ _ X (hX _ (by omega)) (fun b hb => lateK_ge X hX h0 k (by omega) b (by rw [lateK_length] at hb; exact hb)) (by rw [lateK_length]; omega) _ (Nat.le_refl _) a (by rw [lateK_length]; exact ha)
theorem lateK_le (ts : List TskP) (a k : Nat) : ∀ m, at0 (lateK ts (k + m)) a ≤ at0 (lateK ts k) a
  | 0 => Int.le_refl _
  | m + 1 => by
    have h1 := lateK_le ts a k m
    have h2 := pull_le ts (ts.length - 1 - (k + m)) (tat ts (ts.length - 1 - (k + m))).2 (lateK ts (k + m)) (tat ts (ts.length - 1 - (k + m))).2.length a
    rw [← Nat.add_assoc, lateK]; omega
theorem lateK_same {ts : List TskP} (h : tasksB ts = true) (b k : Nat) (hb : ts.length - 1 - k ≤ b) : ∀ m, k + m ≤ ts.length → at0 (lateK ts (k + m)) b = at0 (lateK ts k) b
  | 0, _ => rfl
  | m + 1, hm => by
    rw [← Nat.add_assoc, lateK, pull_same, lateK_same h b k hb m (by omega)]
    intro j hj
    have := afA_lt h (i := ts.length - 1 - (k + m)) (by omega) hj
    omega
theorem late_ok {ts : List TskP} (h : tasksB ts = true) (i : Nat) (hi : i < ts.length) (j : Nat) (hj : j < (tat ts i).2.length) :
    at0 (lateK ts ts.length) (afA (tat ts i).2 j) + (tat ts (afA (tat ts i).2 j)).1 ≤ at0 (lateK ts ts.length) i := by
  obtain ⟨k, hk⟩ : ∃ k, k + (i + 1) = ts.length := ⟨ts.length - 1 - i, by omega⟩
  have e : ts.length - 1 - k = i := by omega
  have h1 := lateK_same h i k (by omega) (i + 1) (by omega)
  have h2 := lateK_le ts (afA (tat ts i).2 j) (k + 1) i
  have h3 := pull_ok ts i (tat ts i).2 (lateK ts k) (fun j hj => afA_lt h hi hj) (by rw [lateK_length]; exact hi) _ (Nat.le_refl _) j hj
  have h4 : lateK ts (k + 1) = pull ts i (tat ts i).2 (lateK ts k) (tat ts i).2.length := by rw [lateK, e]
  rw [h4] at h2
  rw [show k + 1 + i = ts.length by omega, h4.symm] at h2
  rw [hk] at h1
  rw [← h4] at h3
  omega
theorem late_ge_early {ts : List TskP} (h : tasksB ts = true) (a : Nat) (ha : a < ts.length) : at0 (early ts ts.length) a ≤ at0 (lateK ts ts.length) a :=
  lateK_ge _ (early_ok h) (end_ge h) ts.length (Nat.le_refl _) a ha
theorem late_le {ts : List TskP} (a : Nat) (ha : a < ts.length) : at0 (lateK ts ts.length) a ≤ endF ts - (tat ts a).1 := by
  have h1 := lateK_le ts a 0 ts.length
  rw [Nat.zero_add] at h1
  have : at0 (late0 ts ts.length) a = endF ts - (tat ts a).1 := by
    rw [← at0_eq (by rw [late0_length]; exact ha)]; simp [late0]
  rw [← this]; exact h1
theorem late_starts {ts : List TskP} (h : tasksB ts = true) : startsB ts (lateK ts ts.length) = true := by
  refine st_mk h (lateK_length ts _) (fun k hk => ?_) (late_ok h)
  rw [lateK_length] at hk
  have h1 := late_ge_early h k hk
  have h2 := (early_bound h ts.length k).1
  have h3 := (lateK_bound h ts.length (Nat.le_refl _) k).2
  omega
/-- Whoever is done by the end begins at most as late. -/
theorem late_most {ts : List TskP} {xs : List Int} (h : startsB ts xs = true) (he : ∀ k, k < ts.length → at0 xs k + (tat ts k).1 ≤ endF ts) (a : Nat) (ha : a < ts.length) : at0 xs a ≤ at0 (lateK ts ts.length) a :=
  lateK_ge _ (st_parts h).2.2.2 he ts.length (Nat.le_refl _) a ha
theorem late_end {ts : List TskP} (h : tasksB ts = true) (k : Nat) (hk : k < ts.length) (e : endF ts = at0 (early ts ts.length) k + (tat ts k).1) : at0 (lateK ts ts.length) k = at0 (early ts ts.length) k := by
  have h1 := late_ge_early h k hk
  have h2 := late_le (ts := ts) k hk
  omega
theorem late_some {ts : List TskP} (h : tasksB ts = true) (hp : 0 < ts.length) : ∃ k, k < ts.length ∧ at0 (lateK ts ts.length) k = at0 (early ts ts.length) k := by
  obtain ⟨k, hk, e⟩ := end_is h hp
  exact ⟨k, hk, late_end h k hk e⟩
/-- The task before one that cannot wait cannot wait. -/
theorem late_before {ts : List TskP} (h : tasksB ts = true) (i : Nat) (hi : i < ts.length) (j : Nat) (hj : j < (tat ts i).2.length) (e1 : at0 (lateK ts ts.length) i = at0 (early ts ts.length) i)
    (e2 : at0 (early ts ts.length) (afA (tat ts i).2 j) + (tat ts (afA (tat ts i).2 j)).1 = at0 (early ts ts.length) i) : at0 (lateK ts ts.length) (afA (tat ts i).2 j) = at0 (early ts ts.length) (afA (tat ts i).2 j) := by
  have h1 := late_ge_early h (afA (tat ts i).2 j) (by have := afA_lt h hi hj; omega)
  have h2 := late_ok h i hi j hj
  omega
end Go.Proofs.Ytgndokhehooplaa
