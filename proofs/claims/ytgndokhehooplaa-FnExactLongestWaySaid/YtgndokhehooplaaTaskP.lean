/- Tasks: what TasksValid, StartsEarly, TasksEnd, StartsLate, LongestWay compute, as plain functions on lists; their bounds. No program in sight. -/
import Derived.Test.YtgndokhehooplaaInts
import Derived.Test.YtgndokhehooplaaAt
set_option linter.unusedVariables false
set_option linter.unusedSimpArgs false
namespace Go.Proofs.Ytgndokhehooplaa

abbrev TskP := Int × List Int
def tat (ts : List TskP) (k : Nat) : TskP := ts.getD k (0, [])
theorem tat_eq {ts : List TskP} {k : Nat} (h : k < ts.length) : ts[k] = tat ts k := by simp [tat, h]
def prv (xs : List Int) : Nat → Int
  | 0 => -1
  | j + 1 => at0 xs j
def afP (i : Nat) (xs : List Int) (j : Nat) : Bool := decide (prv xs j < at0 xs j) && decide (at0 xs j < (i : Int))
def afUpTo (i : Nat) (xs : List Int) (n : Nat) : Bool := (List.range n).all (afP i xs)
def tOk (i : Nat) (t : TskP) : Bool := inB t.1 0 30 && afUpTo i t.2 t.2.length
def tUpTo (ts : List TskP) (n : Nat) : Bool := (List.range n).all fun i => tOk i (tat ts i)
def tasksB (ts : List TskP) : Bool := tUpTo ts ts.length && decide (ts.length ≤ 7)
theorem afUpTo_succ (i : Nat) (xs : List Int) (n : Nat) : afUpTo i xs (n + 1) = (afUpTo i xs n && afP i xs n) := by simp [afUpTo, List.range_succ]
theorem tUpTo_succ (ts : List TskP) (n : Nat) : tUpTo ts (n + 1) = (tUpTo ts n && tOk n (tat ts n)) := by simp [tUpTo, List.range_succ]
theorem afUpTo_false {i : Nat} {xs : List Int} {k n : Nat} (h : afP i xs k = false) (hk : k < n) : afUpTo i xs n = false := by
  rw [afUpTo, List.all_eq_false]
  exact ⟨k, List.mem_range.2 hk, by simp [h]⟩
theorem tasks_bad {ts : List TskP} {k : Nat} (hk : k < ts.length) (h : tOk k (tat ts k) = false) : tasksB ts = false := by
  have : tUpTo ts ts.length = false := by
    rw [tUpTo, List.all_eq_false]
    exact ⟨k, List.mem_range.2 hk, by simp [h]⟩
  rw [tasksB, this]; rfl
theorem tasks_len {ts : List TskP} (h : tasksB ts = true) : ts.length ≤ 7 := by
  simp only [tasksB, Bool.and_eq_true, decide_eq_true_eq] at h; exact h.2
theorem tasks_at {ts : List TskP} (h : tasksB ts = true) (k : Nat) (hk : k < ts.length) : tOk k (tat ts k) = true := by
  simp only [tasksB, Bool.and_eq_true, tUpTo, List.all_eq_true, List.mem_range] at h
  exact h.1 k hk
theorem tat_out {ts : List TskP} {k : Nat} (h : ts.length ≤ k) : tat ts k = (0, []) := by simp [tat, h]
theorem task_span {ts : List TskP} (h : tasksB ts = true) (k : Nat) : 0 ≤ (tat ts k).1 ∧ (tat ts k).1 ≤ 30 := by
  by_cases hk : k < ts.length
  · have := tasks_at h k hk
    simp only [tOk, Bool.and_eq_true, inB_true] at this
    exact this.1
  · rw [tat_out (by omega)]; simp
theorem af_lt {i : Nat} {xs : List Int} {n j : Nat} (h : afUpTo i xs n = true) (hj : j < n) : prv xs j < at0 xs j ∧ at0 xs j < i := by
  simp only [afUpTo, List.all_eq_true, List.mem_range] at h
  have := h j hj
  simpa [afP] using this
theorem af_range {i : Nat} {xs : List Int} {n j : Nat} (h : afUpTo i xs n = true) (hj : j < n) : 0 ≤ at0 xs j ∧ at0 xs j < i := by
  refine ⟨?_, (af_lt h hj).2⟩
  induction j with
  | zero => have := (af_lt h hj).1; simp [prv] at this; omega
  | succ j ih => have := (af_lt h hj).1; have := ih (by omega); simp [prv] at *; omega
theorem task_after {ts : List TskP} (h : tasksB ts = true) (k : Nat) (hk : k < ts.length) (j : Nat) (hj : j < (tat ts k).2.length) : 0 ≤ at0 (tat ts k).2 j ∧ at0 (tat ts k).2 j < k := by
  have := tasks_at h k hk
  simp only [tOk, Bool.and_eq_true] at this
  exact af_range this.2 hj
/-- The greatest end of the tasks that are waited for, 0 if there are none. -/
def stF (ts : List TskP) (es xs : List Int) : Nat → Int
  | 0 => 0
  | j + 1 => max (stF ts es xs j) (at0 es (at0 xs j).toNat + (tat ts (at0 xs j).toNat).1)
def early (ts : List TskP) : Nat → List Int
  | 0 => []
  | k + 1 => early ts k ++ [stF ts (early ts k) (tat ts k).2 (tat ts k).2.length]
def earlyF (ts : List TskP) : List Int := if tasksB ts then early ts ts.length else []
theorem earlyF_no {ts : List TskP} (h : tasksB ts = false) : earlyF ts = [] := by simp [earlyF, h]
theorem earlyF_yes {ts : List TskP} (h : tasksB ts = true) : earlyF ts = early ts ts.length := by simp [earlyF, h]
theorem early_length (ts : List TskP) : ∀ k, (early ts k).length = k
  | 0 => rfl
  | k + 1 => by rw [early, List.length_append, early_length ts k]; rfl
theorem earlyF_len (ts : List TskP) (h : ts.length ≤ 1048576) : (earlyF ts).length ≤ 1048576 := by
  unfold earlyF; split
  · rw [early_length]; exact h
  · simp
theorem at0_append_left (xs ys : List Int) (j : Nat) (h : j < xs.length) : at0 (xs ++ ys) j = at0 xs j := by simp only [at0, List.getD_eq_getElem?_getD, List.getElem?_append_left h]
theorem at0_append_at (xs ys : List Int) (y : Int) : at0 (xs ++ y :: ys) xs.length = y := by simp [at0]
theorem early_at (ts : List TskP) (a : Nat) : ∀ k, a < k → at0 (early ts k) a = stF ts (early ts a) (tat ts a).2 (tat ts a).2.length
  | 0, h => by omega
  | k + 1, h => by
    rw [early]
    by_cases e : a = k
    · subst e
      have := at0_append_at (early ts a) [] (stF ts (early ts a) (tat ts a).2 (tat ts a).2.length)
      rw [early_length] at this; exact this
    · rw [at0_append_left _ _ _ (by rw [early_length]; omega)]
      exact early_at ts a k (by omega)
theorem early_prefix (ts : List TskP) (a k k' : Nat) (h : a < k) (h' : a < k') : at0 (early ts k) a = at0 (early ts k') a := by rw [early_at ts a k h, early_at ts a k' h']
theorem stF_bound {ts : List TskP} (h : tasksB ts = true) (es xs : List Int) (M : Int) (hM : 0 ≤ M) (hb : ∀ a, 0 ≤ at0 es a ∧ at0 es a ≤ M) : ∀ j, 0 ≤ stF ts es xs j ∧ stF ts es xs j ≤ M + 30
  | 0 => by simp [stF]; omega
  | j + 1 => by
    have h1 := stF_bound h es xs M hM hb j
    have h2 := hb (at0 xs j).toNat
    have h3 := task_span h (at0 xs j).toNat
    rw [stF]; omega
theorem at0_out {xs : List Int} {a : Nat} (h : xs.length ≤ a) : at0 xs a = 0 := by simp [at0, h]
theorem early_bound {ts : List TskP} (h : tasksB ts = true) : ∀ k a, 0 ≤ at0 (early ts k) a ∧ at0 (early ts k) a ≤ 30 * k
  | 0, a => by simp [early, at0]
  | k + 1, a => by
    by_cases ha : a < k
    · rw [early_prefix ts a (k + 1) k (by omega) ha]
      have := early_bound h k a; omega
    · by_cases e : a = k
      · subst e
        rw [early_at ts a (a + 1) (by omega)]
        have := stF_bound h (early ts a) (tat ts a).2 (30 * a) (by omega) (early_bound h a) (tat ts a).2.length
        omega
      · rw [at0_out (by rw [early_length]; omega)]; omega
/-- The greatest end of the first k tasks. -/
def endT (ts : List TskP) (es : List Int) : Nat → Int
  | 0 => 0
  | k + 1 => max (endT ts es k) (at0 es k + (tat ts k).1)
def endF (ts : List TskP) : Int := if tasksB ts then endT ts (early ts ts.length) ts.length else -1
theorem endF_no {ts : List TskP} (h : tasksB ts = false) : endF ts = -1 := by simp [endF, h]
theorem endF_yes {ts : List TskP} (h : tasksB ts = true) : endF ts = endT ts (early ts ts.length) ts.length := by simp [endF, h]
theorem endT_bound {ts : List TskP} (h : tasksB ts = true) (n : Nat) : ∀ k, 0 ≤ endT ts (early ts n) k ∧ endT ts (early ts n) k ≤ 30 * n + 30
  | 0 => by simp [endT]; omega
  | k + 1 => by
    have h1 := endT_bound h n k
    have h2 := early_bound h n k
    have h3 := task_span h k
    rw [endT]; omega
theorem endF_bound {ts : List TskP} (h : tasksB ts = true) : 0 ≤ endF ts ∧ endF ts ≤ 240 := by
  rw [endF_yes h]
  have h1 := endT_bound h ts.length ts.length
  have h2 := tasks_len h
  omega
/-- From the end on: what waits for task i pulls it ahead. -/
def pull (ts : List TskP) (i : Nat) (xs : List Int) (L : List Int) : Nat → List Int
  | 0 => L
  | j + 1 => (pull ts i xs L j).set (at0 xs j).toNat (min (at0 (pull ts i xs L j) (at0 xs j).toNat) (at0 (pull ts i xs L j) i - (tat ts (at0 xs j).toNat).1))
def late0 (ts : List TskP) (k : Nat) : List Int := (List.range k).map fun i => endF ts - (tat ts i).1
/-- The times when the last k tasks have pulled. -/
def lateK (ts : List TskP) : Nat → List Int
  | 0 => late0 ts ts.length
  | k + 1 => pull ts (ts.length - 1 - k) (tat ts (ts.length - 1 - k)).2 (lateK ts k) (tat ts (ts.length - 1 - k)).2.length
def lateF (ts : List TskP) : List Int := if tasksB ts then lateK ts ts.length else []
theorem lateF_no {ts : List TskP} (h : tasksB ts = false) : lateF ts = [] := by simp [lateF, h]
theorem lateF_yes {ts : List TskP} (h : tasksB ts = true) : lateF ts = lateK ts ts.length := by simp [lateF, h]
theorem pull_length (ts : List TskP) (i : Nat) (xs L : List Int) : ∀ j, (pull ts i xs L j).length = L.length
  | 0 => rfl
  | j + 1 => by rw [pull, List.length_set, pull_length ts i xs L j]
theorem late0_length (ts : List TskP) (k : Nat) : (late0 ts k).length = k := by simp [late0]
theorem late0_succ (ts : List TskP) (k : Nat) : late0 ts (k + 1) = late0 ts k ++ [endF ts - (tat ts k).1] := by simp [late0, List.range_succ]
theorem lateK_length (ts : List TskP) : ∀ k, (lateK ts k).length = ts.length
  | 0 => late0_length ts _
  | k + 1 => by rw [lateK, pull_length, lateK_length ts k]
theorem lateF_len (ts : List TskP) (h : ts.length ≤ 1048576) : (lateF ts).length ≤ 1048576 := by
  unfold lateF; split
  · rw [lateK_length]; exact h
  · simp
theorem pull_bound {ts : List TskP} (h : tasksB ts = true) (i : Nat) (xs L : List Int) (M N : Int) (hM : 0 ≤ N) (hb : ∀ a, -M ≤ at0 L a ∧ at0 L a ≤ N) : ∀ j, ∀ a, -(M + 30 * j) ≤ at0 (pull ts i xs L j) a ∧ at0 (pull ts i xs L j) a ≤ N
  | 0, a => by have := hb a; rw [pull]; omega
  | j + 1, a => by
    have h1 := pull_bound h i xs L M N hM hb j
    have h2 := task_span h (at0 xs j).toNat
    rw [pull]
    by_cases e : (at0 xs j).toNat = a
    · subst e
      by_cases hl : (at0 xs j).toNat < (pull ts i xs L j).length
      · rw [at0_set_eq _ _ _ hl]
        have h3 := h1 (at0 xs j).toNat
        have h4 := h1 i
        omega
      · rw [List.set_eq_of_length_le (by omega)]
        have := h1 (at0 xs j).toNat; omega
    · rw [at0_set_ne _ _ _ _ e]
      have := h1 a; omega
theorem after_len {ts : List TskP} (h : tasksB ts = true) (k : Nat) (hk : k < ts.length) : (tat ts k).2.length ≤ k := by
  have hx := tasks_at h k hk
  simp only [tOk, Bool.and_eq_true] at hx
  generalize (tat ts k).2 = xs at hx
  have key : ∀ j, j < xs.length → (j : Int) ≤ at0 xs j := by
    intro j
    induction j with
    | zero => intro hj; have := (af_range hx.2 hj).1; omega
    | succ j ih =>
      intro hj
      have h1 := ih (by omega)
      have h2 := (af_lt hx.2 hj).1
      simp [prv] at h2; omega
  rcases Nat.eq_zero_or_pos xs.length with e | e
  · omega
  · have h1 := key (xs.length - 1) (by omega)
    have h2 := (af_range hx.2 (j := xs.length - 1) (by omega)).2
    omega
theorem lateK_bound {ts : List TskP} (h : tasksB ts = true) : ∀ k, k ≤ ts.length → ∀ a, -(30 + 210 * k) ≤ at0 (lateK ts k) a ∧ at0 (lateK ts k) a ≤ 240
  | 0, _, a => by
    rw [lateK]
    by_cases ha : a < ts.length
    · have h1 := endF_bound h
      have h2 := task_span h a
      have : at0 (late0 ts ts.length) a = endF ts - (tat ts a).1 := by
        rw [← at0_eq (by rw [late0_length]; exact ha)]; simp [late0]
      rw [this]; omega
    · rw [at0_out (by rw [late0_length]; omega)]; omega
  | k + 1, hk, a => by
    have h1 := lateK_bound h k (by omega)
    have h3 := after_len h (ts.length - 1 - k) (by omega)
    have h4 := tasks_len h
    have h2 := pull_bound h (ts.length - 1 - k) (tat ts (ts.length - 1 - k)).2 (lateK ts k) (30 + 210 * k) 240 (by omega) (fun a => by have := h1 a; omega) (tat ts (ts.length - 1 - k)).2.length a
    rw [lateK]
    omega
/-- The first one of some tasks that ends at a time, 0 if there is none. -/
def endAt (ts : List TskP) (es : List Int) (time : Int) : List Int → Int
  | [] => 0
  | i :: r => if at0 es i.toNat + (tat ts i.toNat).1 = time then i else endAt ts es time r
end Go.Proofs.Ytgndokhehooplaa
