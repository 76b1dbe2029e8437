/- The plain law of SettleFast: who pays whom, until nobody owes anything. No program in sight. -/
import Derived.Test.YtgndokhehooplaaAt
set_option linter.unusedVariables false
set_option linter.unusedSimpArgs false
namespace Go.Proofs.Ytgndokhehooplaa
open Go Go.RowKit

def amin (l : List Int) : Nat → Nat
  | 0 => 0
  | k + 1 => if at0 l k < at0 l (amin l k) then k else amin l k
def amax (l : List Int) : Nat → Nat
  | 0 => 0
  | k + 1 => if at0 l k > at0 l (amax l k) then k else amax l k
theorem amin_lt (l : List Int) (k : Nat) (h : 0 < k) : amin l k < k := by
  induction k with
  | zero => omega
  | succ k ih =>
    unfold amin
    split
    · omega
    · rcases Nat.eq_zero_or_pos k with e | e
      · subst e; simp [amin]
      · have := ih e; omega
theorem amax_lt (l : List Int) (k : Nat) (h : 0 < k) : amax l k < k := by
  induction k with
  | zero => omega
  | succ k ih =>
    unfold amax
    split
    · omega
    · rcases Nat.eq_zero_or_pos k with e | e
      · subst e; simp [amax]
      · have := ih e; omega
theorem amin_le (l : List Int) (k j : Nat) (h : j < k) : at0 l (amin l k) ≤ at0 l j := by
  induction k with
  | zero => omega
  | succ k ih =>
    unfold amin
    by_cases hj : j = k
    · subst hj; split <;> omega
    · have := ih (by omega); split <;> omega
theorem amax_ge (l : List Int) (k j : Nat) (h : j < k) : at0 l j ≤ at0 l (amax l k) := by
  induction k with
  | zero => omega
  | succ k ih =>
    unfold amax
    by_cases hj : j = k
    · subst hj; split <;> omega
    · have := ih (by omega); split <;> omega
/-- The step: f pays t. -/
def settleStep (l : List Int) (f t : Nat) (s : Int) : List Int := (l.set f (at0 l f + s)).set t (at0 l t - s)
def settleN : Nat → List Int → List (Int × Int × Int)
  | 0, _ => []
  | n + 1, l =>
    if 0 ≤ at0 l (amin l l.length) then [] else
      ((amin l l.length : Int), (amax l l.length : Int), min (-at0 l (amin l l.length)) (at0 l (amax l l.length))) ::
        settleN n (settleStep l (amin l l.length) (amax l l.length) (min (-at0 l (amin l l.length)) (at0 l (amax l l.length))))
def cnt (l : List Int) : Nat := l.countP (fun x => x != 0)
theorem cnt_le (l : List Int) : cnt l ≤ l.length := List.countP_le_length
theorem settleN_len (n : Nat) (l : List Int) : (settleN n l).length ≤ n := by
  induction n generalizing l with
  | zero => simp [settleN]
  | succ n ih => unfold settleN; split <;> simp; exact ih _
theorem settleN_done (n : Nat) (l : List Int) (h : 0 ≤ at0 l (amin l l.length)) : settleN n l = [] := by
  cases n with
  | zero => rfl
  | succ n => rw [settleN, if_pos h]
theorem sum_set (l : List Int) (i : Nat) (a : Int) (h : i < l.length) : (l.set i a).sum = l.sum - at0 l i + a := by
  induction l generalizing i with
  | nil => simp at h
  | cons x t ih =>
    cases i with
    | zero => simp [at0]; omega
    | succ i =>
      have := ih i (by simpa using h)
      have e : at0 (x :: t) (i + 1) = at0 t i := by simp [at0]
      rw [List.set_cons_succ, List.sum_cons, List.sum_cons, this, e]; omega
theorem exists_at {l : List Int} {x : Int} (h : x ∈ l) : ∃ k, k < l.length ∧ at0 l k = x := by
  obtain ⟨k, hk, e⟩ := List.getElem_of_mem h
  exact ⟨k, hk, by rw [← at0_eq hk, e]⟩
theorem cnt_set (l : List Int) (i : Nat) (a : Int) (h : i < l.length) : cnt (l.set i a) = cnt l - (if at0 l i != 0 then 1 else 0) + (if a != 0 then 1 else 0) := by
  unfold cnt
  rw [List.countP_set h, at0_eq h]
theorem cnt_pos {l : List Int} {i : Nat} (h : i < l.length) (hn : at0 l i ≠ 0) : 0 < cnt l := List.countP_pos_iff.2 ⟨_, at0_mem h, by simp [hn]⟩
theorem sum_neg {l : List Int} (h : ∀ x ∈ l, x ≤ 0) : l.sum ≤ 0 ∧ ∀ x ∈ l, l.sum ≤ x := by
  induction l with
  | nil => simp
  | cons x t ih =>
    have h1 := h x (by simp)
    have h2 := ih fun y hy => h y (by simp [hy])
    rw [List.sum_cons]
    refine ⟨by omega, fun y hy => ?_⟩
    rcases List.mem_cons.1 hy with rfl | hy
    · omega
    · have := h2.2 y hy; omega
/-- What holds of what is still open. -/
structure Opn (n : Nat) (l : List Int) : Prop where
  len : l.length = n
  zero : l.sum = 0
  inn : ∀ x ∈ l, -9999 ≤ x ∧ x ≤ 9999
theorem Opn.pos {n : Nat} {l : List Int} (h : Opn n l) (hn : at0 l (amin l l.length) < 0) : 0 < l.length ∧ 0 < at0 l (amax l l.length) ∧ amin l l.length ≠ amax l l.length := by
  have hl : 0 < l.length := by
    rcases Nat.eq_zero_or_pos l.length with e | e
    · have : l = [] := List.eq_nil_of_length_eq_zero e
      subst this; simp [amin, at0] at hn
    · exact e
  have hmin := amin_lt l l.length hl
  have hp : 0 < at0 l (amax l l.length) := by
    rcases Int.lt_or_le 0 (at0 l (amax l l.length)) with h1 | h1
    · exact h1
    · have := (sum_neg (l := l) fun x hx => by
        obtain ⟨k, hk, rfl⟩ := exists_at hx
        have := amax_ge l l.length k hk; omega).2 _ (at0_mem hmin)
      have := h.zero
      omega
  refine ⟨hl, hp, fun e => ?_⟩
  rw [e] at hn
  omega
theorem Opn.step {n : Nat} {l : List Int} (h : Opn n l) (hn : at0 l (amin l l.length) < 0) :
    let s := min (-at0 l (amin l l.length)) (at0 l (amax l l.length))
    let l' := settleStep l (amin l l.length) (amax l l.length) s
    1 ≤ s ∧ s ≤ 9999 ∧ Opn n l' ∧ cnt l' + 1 ≤ cnt l := by
  intro s l'
  obtain ⟨hl, hp, hne⟩ := h.pos hn
  have hmin := amin_lt l l.length hl
  have hmax := amax_lt l l.length hl
  have b1 := h.inn _ (at0_mem hmin)
  have b2 := h.inn _ (at0_mem hmax)
  have hs : s = min (-at0 l (amin l l.length)) (at0 l (amax l l.length)) := rfl
  have hs1 : 1 ≤ s := by omega
  have hs2 : s ≤ 9999 := by omega
  have hlen1 : (l.set (amin l l.length) (at0 l (amin l l.length) + s)).length = l.length := List.length_set
  have e2 : at0 (l.set (amin l l.length) (at0 l (amin l l.length) + s)) (amax l l.length) = at0 l (amax l l.length) := at0_set_ne _ _ _ _ hne
  refine ⟨hs1, hs2, ⟨?_, ?_, ?_⟩, ?_⟩
  · show (settleStep _ _ _ _).length = n
    rw [settleStep, List.length_set, List.length_set, h.len]
  · show (settleStep _ _ _ _).sum = 0
    rw [settleStep, sum_set _ _ _ (by rw [hlen1]; exact hmax), sum_set _ _ _ hmin, e2, h.zero]; omega
  · intro x hx
    rcases List.mem_or_eq_of_mem_set hx with h1 | h1
    · rcases List.mem_or_eq_of_mem_set h1 with h3 | h3
      · exact h.inn x h3
      · subst h3; omega
    · subst h1; omega
  · show cnt (settleStep _ _ _ _) + 1 ≤ cnt l
    rw [settleStep, cnt_set _ _ _ (by rw [hlen1]; exact hmax), cnt_set _ _ _ hmin, e2]
    have hc := cnt_pos hmin (by omega)
    have n1 : (at0 l (amin l l.length) != 0) = true := by simp; omega
    have n2 : (at0 l (amax l l.length) != 0) = true := by simp; omega
    rw [n1, n2]
    have hc2 : 2 ≤ cnt l := by
      have h5 := cnt_set l (amin l l.length) 0 hmin
      rw [n1] at h5
      have h6 := cnt_pos (l := l.set (amin l l.length) 0) (i := amax l l.length) (by rw [List.length_set]; exact hmax) (by rw [at0_set_ne _ _ _ _ hne]; omega)
      simp at h5
      omega
    have hz : at0 l (amin l l.length) + s = 0 ∨ at0 l (amax l l.length) - s = 0 := by omega
    rcases hz with hz | hz <;> rw [hz] <;> simp <;> split <;> omega
def settleF (owed : List Int) : List (Int × Int × Int) := settleN (cnt owed) owed
theorem settleN_step {n : Nat} {l : List Int} (h : Opn n l) (hn : at0 l (amin l l.length) < 0) (m : Nat) (hm : cnt l ≤ m) :
    ∃ m', m = m' + 1 ∧ settleN m l = ((amin l l.length : Int), (amax l l.length : Int), min (-at0 l (amin l l.length)) (at0 l (amax l l.length))) :: settleN m' (settleStep l (amin l l.length) (amax l l.length) (min (-at0 l (amin l l.length)) (at0 l (amax l l.length)))) := by
  have := h.step hn
  simp only at this
  refine ⟨m - 1, by omega, ?_⟩
  obtain ⟨m', rfl⟩ : ∃ m', m = m' + 1 := ⟨m - 1, by omega⟩
  rw [settleN, if_neg (by omega)]
  rfl
def sliceLen : Value → Nat | .slice _ n _ => n | _ => 0

/-! ### the reference's search -/
def fmin (l : List Int) (k : Nat) : Int := if 0 < k ∧ at0 l (amin l k) < 0 then amin l k else -1
def fmax (l : List Int) (k : Nat) : Int := if 0 < k ∧ 0 < at0 l (amax l k) then amax l k else -1
theorem fmin_cases (l : List Int) (k : Nat) : (fmin l k = -1 ∧ ∀ j, j < k → 0 ≤ at0 l j) ∨ (∃ f : Nat, fmin l k = f ∧ f = amin l k ∧ f < k ∧ at0 l f < 0) := by
  unfold fmin
  split
  · rename_i h
    exact .inr ⟨_, rfl, rfl, amin_lt l k h.1, h.2⟩
  · rename_i h
    refine .inl ⟨rfl, fun j hj => ?_⟩
    have := amin_le l k j hj
    omega
theorem fmax_cases (l : List Int) (k : Nat) : (fmax l k = -1 ∧ ∀ j, j < k → at0 l j ≤ 0) ∨ (∃ f : Nat, fmax l k = f ∧ f = amax l k ∧ f < k ∧ 0 < at0 l f) := by
  unfold fmax
  split
  · rename_i h
    exact .inr ⟨_, rfl, rfl, amax_lt l k h.1, h.2⟩
  · rename_i h
    refine .inl ⟨rfl, fun j hj => ?_⟩
    have := amax_ge l k j hj
    omega
theorem amin_succ (l : List Int) (k : Nat) : amin l (k + 1) = if at0 l k < at0 l (amin l k) then k else amin l k := rfl
theorem amax_succ (l : List Int) (k : Nat) : amax l (k + 1) = if at0 l k > at0 l (amax l k) then k else amax l k := rfl
theorem fmin_keep (l : List Int) (k : Nat) (h : 0 ≤ at0 l k) : fmin l (k + 1) = fmin l k := by
  by_cases h1 : at0 l k < at0 l (amin l k)
  · have e : amin l (k + 1) = k := by rw [amin_succ, if_pos h1]
    unfold fmin
    rw [e, if_neg (by omega), if_neg (by omega)]
  · have e : amin l (k + 1) = amin l k := by rw [amin_succ, if_neg h1]
    unfold fmin
    rw [e]
    rcases Nat.eq_zero_or_pos k with e0 | e0
    · subst e0
      have h3 : 0 ≤ at0 l (amin l 0) := by simpa [amin] using h
      rw [if_neg (by omega), if_neg (by omega)]
    · by_cases h2 : at0 l (amin l k) < 0
      · rw [if_pos ⟨by omega, h2⟩, if_pos ⟨e0, h2⟩]
      · rw [if_neg (by omega), if_neg (by omega)]
theorem fmax_keep (l : List Int) (k : Nat) (h : at0 l k ≤ 0) : fmax l (k + 1) = fmax l k := by
  by_cases h1 : at0 l k > at0 l (amax l k)
  · have e : amax l (k + 1) = k := by rw [amax_succ, if_pos h1]
    unfold fmax
    rw [e, if_neg (by omega), if_neg (by omega)]
  · have e : amax l (k + 1) = amax l k := by rw [amax_succ, if_neg h1]
    unfold fmax
    rw [e]
    rcases Nat.eq_zero_or_pos k with e0 | e0
    · subst e0
      have h3 : at0 l (amax l 0) ≤ 0 := by simpa [amax] using h
      rw [if_neg (by omega), if_neg (by omega)]
    · by_cases h2 : 0 < at0 l (amax l k)
      · rw [if_pos ⟨by omega, h2⟩, if_pos ⟨e0, h2⟩]
      · rw [if_neg (by omega), if_neg (by omega)]
theorem fmin_new (l : List Int) (k : Nat) (h : at0 l k < 0) (hf : fmin l k = -1 ∨ at0 l k < at0 l (amin l k)) : fmin l (k + 1) = k := by
  have e : amin l (k + 1) = k := by
    rw [amin_succ]
    rcases Nat.eq_zero_or_pos k with e | e
    · subst e; simp [amin]
    · rw [if_pos]
      rcases hf with hf | hf
      · unfold fmin at hf
        split at hf
        · omega
        · omega
      · exact hf
  unfold fmin
  rw [e, if_pos ⟨by omega, h⟩]
theorem fmax_new (l : List Int) (k : Nat) (h : 0 < at0 l k) (hf : fmax l k = -1 ∨ at0 l (amax l k) < at0 l k) : fmax l (k + 1) = k := by
  have e : amax l (k + 1) = k := by
    rw [amax_succ]
    rcases Nat.eq_zero_or_pos k with e | e
    · subst e; simp [amax]
    · rw [if_pos]
      rcases hf with hf | hf
      · unfold fmax at hf
        split at hf
        · omega
        · omega
      · exact hf
  unfold fmax
  rw [e, if_pos ⟨by omega, h⟩]
theorem fmin_old (l : List Int) (k f : Nat) (hf : fmin l k = f) (h : at0 l (amin l k) ≤ at0 l k) : fmin l (k + 1) = f := by
  unfold fmin at hf
  split at hf
  · rename_i hh
    have e : amin l (k + 1) = amin l k := by rw [amin_succ, if_neg (by omega)]
    unfold fmin
    rw [e, if_pos ⟨by omega, hh.2⟩, hf]
  · omega
theorem fmax_old (l : List Int) (k f : Nat) (hf : fmax l k = f) (h : at0 l k ≤ at0 l (amax l k)) : fmax l (k + 1) = f := by
  unfold fmax at hf
  split at hf
  · rename_i hh
    have e : amax l (k + 1) = amax l k := by rw [amax_succ, if_neg (by omega)]
    unfold fmax
    rw [e, if_pos ⟨by omega, hh.2⟩, hf]
  · omega
theorem fmin_end {l : List Int} (h : fmin l l.length = -1) : 0 ≤ at0 l (amin l l.length) := by
  rcases fmin_cases l l.length with ⟨_, h1⟩ | ⟨f, h1, _⟩
  · rcases Nat.eq_zero_or_pos l.length with e | e
    · have : l = [] := List.eq_nil_of_length_eq_zero e
      subst this; simp [at0]
    · exact h1 _ (amin_lt l _ e)
  · omega
theorem fmin_on {l : List Int} (hl : 0 < l.length) (h : at0 l (amin l l.length) < 0) : fmin l l.length = amin l l.length := by
  unfold fmin; rw [if_pos ⟨hl, h⟩]
theorem fmax_on {l : List Int} (hl : 0 < l.length) (h : 0 < at0 l (amax l l.length)) : fmax l l.length = amax l l.length := by
  unfold fmax; rw [if_pos ⟨hl, h⟩]
end Go.Proofs.Ytgndokhehooplaa
