/- Plain laws of kitchens: the work that is left, what a piece of work and a run of them do. -/
import Derived.Test.YthbledeghanffaaDoorCrsP
import Derived.Test.YthbledeghanffaaDoorWork5
set_option linter.unusedVariables false
set_option linter.unusedSimpArgs false
namespace Go.Proofs.YthbledeghanffaaDoor
open Go.ChangeShapes Go.WideShapes Go.ChangeAt Go.RowKit

theorem ticket_course0 {os : List Ord} (h : ticketB os = true) : ∀ o ∈ os, 0 ≤ o.1 := by
  intro o ho
  unfold ticketB at h
  rw [Bool.and_eq_true, List.all_eq_true] at h
  have := h.1 o ho
  simp [tOk, inB] at this
  exact this.1.1
/-- A valid ticket is done exactly if no dish is left. -/
theorem done_iff {os : List Ord} (h : ticketB os = true) : doneB os = true ↔ ∀ o ∈ os, 3 ≤ o.2 := by
  have e : doneB os = decide (courseF os < 0) := by simp [doneB, h]
  rw [e, courseF_yes h, decide_eq_true_eq]
  rcases crs_spec os (ticket_course0 h) with ⟨h1, h2⟩ | ⟨h1, ⟨x, hx, h2, h3⟩, -⟩
  · constructor
    · intro _ o ho; have := h2 o ho; omega
    · intro _; omega
  · constructor
    · intro h4; omega
    · intro h4; have := h4 x hx; omega
theorem leftO_pos (o : Ord) (h : o.2 ≤ 4) : 0 ≤ leftO o ∧ (leftO o = 0 ↔ 3 ≤ o.2) := by
  unfold leftO; split <;> omega
theorem leftT_zero {os : List Ord} (h : ∀ o ∈ os, 0 ≤ o.2 ∧ o.2 ≤ 4) : leftT os = 0 ↔ ∀ o ∈ os, 3 ≤ o.2 := by
  induction os with
  | nil => simp [leftT]
  | cons o t ih =>
    have h1 := leftO_pos o (h o (by simp)).2
    have h2 := leftT_bound (os := t) fun x hx => h x (by simp [hx])
    have h3 := ih fun x hx => h x (by simp [hx])
    have e : leftT (o :: t) = leftO o + leftT t := by simp [leftT]
    rw [e, List.forall_mem_cons, ← h3, ← h1.2]
    omega
theorem leftT_done {os : List Ord} (h : ticketB os = true) : doneB os = decide (leftT os = 0) := by
  rw [Bool.eq_iff_iff, done_iff h, decide_eq_true_eq, leftT_zero (ticket_state h)]
theorem kit_all {ks : List (List Ord)} (h : kitB ks = true) : ∀ os ∈ ks, ticketB os = true := by
  simp only [kitB, Bool.and_eq_true] at h
  exact fun os ho => List.all_eq_true.1 h.1 os ho
theorem kit_le {ks : List (List Ord)} (h : kitB ks = true) : ks.length ≤ 4 := by
  simp only [kitB, Bool.and_eq_true, decide_eq_true_eq] at h
  exact h.2
theorem leftK_done : ∀ {ks : List (List Ord)}, (∀ os ∈ ks, ticketB os = true) → 0 ≤ leftK ks ∧ (ks.all doneB = decide (leftK ks = 0))
  | [], _ => by simp [leftK]
  | os :: t, h => by
    have h1 := h os (by simp)
    have h2 := leftK_done (ks := t) fun x hx => h x (by simp [hx])
    have h3 := leftT_bound (ticket_state h1)
    have e : leftK (os :: t) = leftT os + leftK t := by simp [leftK]
    refine ⟨by rw [e]; omega, ?_⟩
    rw [List.all_cons, leftT_done h1, h2.2, e, Bool.eq_iff_iff, Bool.and_eq_true, decide_eq_true_eq, decide_eq_true_eq, decide_eq_true_eq]
    omega
theorem ticket_le {os : List Ord} (h : ticketB os = true) : os.length ≤ 6 := by
  simp only [ticketB, Bool.and_eq_true, decide_eq_true_eq] at h
  exact h.2
theorem leftK_le {ks : List (List Ord)} (h : kitB ks = true) : 0 ≤ leftK ks ∧ leftK ks ≤ 72 := by
  have h1 := leftK_bound (ks := ks) fun os ho => ticket_state (kit_all h os ho)
  have h2 : ∀ l : List (List Ord), (∀ os ∈ l, ticketB os = true) → total l ≤ 6 * l.length := by
    intro l
    induction l with
    | nil => intro _; simp [total]
    | cons os t ih =>
      intro hl
      have := ih fun x hx => hl x (by simp [hx])
      have := ticket_le (hl os (by simp))
      have e : total (os :: t) = os.length + total t := by simp [total]
      rw [e, List.length_cons]; omega
  have := h2 ks (kit_all h)
  have := kit_le h
  omega
/-! ### one piece of work -/
theorem leftT_set : ∀ (os : List Ord) (j : Nat) (h : j < os.length) (s : Int), leftT (os.set j (os[j].1, s)) = leftT os - leftO os[j] + leftO (os[j].1, s)
  | [], j, h, s => by simp at h
  | o :: t, 0, h, s => by simp [leftT]; omega
  | o :: t, j + 1, h, s => by
    have := leftT_set t j (by simpa using h) s
    simp only [leftT, List.set_cons_succ, List.map_cons, List.sum_cons, List.getElem_cons_succ] at this ⊢
    omega
theorem leftK_set : ∀ (ks : List (List Ord)) (k : Nat) (h : k < ks.length) (os : List Ord), leftK (ks.set k os) = leftK ks - leftT ks[k] + leftT os
  | [], k, h, os => by simp at h
  | o :: t, 0, h, os => by simp [leftK]; omega
  | o :: t, k + 1, h, os => by
    have := leftK_set t k (by simpa using h) os
    simp only [leftK, List.set_cons_succ, List.map_cons, List.sum_cons, List.getElem_cons_succ] at this ⊢
    omega
theorem kit_set {ks : List (List Ord)} (h : kitB ks = true) (k : Nat) {os : List Ord} (ho : ticketB os = true) : kitB (ks.set k os) = true := by
  simp only [kitB, Bool.and_eq_true, decide_eq_true_eq, List.all_eq_true, List.length_set] at h ⊢
  refine ⟨fun x hx => ?_, h.2⟩
  rcases List.mem_or_eq_of_mem_set hx with h1 | h1
  · exact h.1 x h1
  · rw [h1]; exact ho
theorem fj_none (s : Int) : ∀ (os : List Ord) (i : Nat), fj s i os = none → ∀ o ∈ os, o.2 ≠ s
  | [], i, _ => by simp
  | o :: t, i, h => by
    rw [fj] at h
    split at h
    · cases h
    · rename_i hn
      intro x hx
      rcases List.mem_cons.1 hx with rfl | hx
      · exact hn
      · exact fj_none s t (i + 1) h x hx
theorem fk_none (s : Int) : ∀ (ks : List (List Ord)) (i : Nat), fk s i ks = none → ∀ os ∈ ks, ∀ o ∈ os, o.2 ≠ s
  | [], i, _ => by simp
  | os :: t, i, h => by
    rw [fk] at h
    split at h
    · cases h
    · rename_i hn
      intro x hx
      rcases List.mem_cons.1 hx with rfl | hx
      · exact fj_none s _ 0 hn
      · exact fk_none s t (i + 1) h x hx
theorem fireL_neg : ∀ (ks : List (List Ord)) (i : Nat), (fireL i ks).1 < 0 → fireL i ks = (-1, -1) ∧ ∀ os ∈ ks, mayF os = []
  | [], i, _ => by simp [fireL]
  | os :: t, i, h => by
    cases hm : mayF os with
    | nil =>
      have e : fireL i (os :: t) = fireL (i + 1) t := by rw [fireL, hm]
      rw [e] at h ⊢
      obtain ⟨h1, h2⟩ := fireL_neg t (i + 1) h
      refine ⟨h1, fun x hx => ?_⟩
      rcases List.mem_cons.1 hx with rfl | hx
      · exact hm
      · exact h2 x hx
    | cons x r =>
      have e : fireL i (os :: t) = ((i : Int), x) := by rw [fireL, hm]
      rw [e] at h
      simp only at h
      omega
/-- The first ticket that can be fired. -/
theorem fireL_first : ∀ (ks : List (List Ord)) (i : Nat), ¬ (fireL i ks).1 < 0 → ∃ (k : Nat) (h1 : k < ks.length) (x : Int) (r : List Int), fireL i ks = (((i + k : Nat) : Int), x) ∧ mayF ks[k] = x :: r ∧ ∀ (j : Nat) (hj : j < ks.length), j < k → mayF ks[j] = []
  | [], i, h => by simp [fireL] at h
  | os :: t, i, h => by
    cases hm : mayF os with
    | nil =>
      have e : fireL i (os :: t) = fireL (i + 1) t := by rw [fireL, hm]
      rw [e] at h ⊢
      obtain ⟨k, h1, x, r, h2, h3, h4⟩ := fireL_first t (i + 1) h
      refine ⟨k + 1, by simp; omega, x, r, by rw [h2]; congr 2; omega, by simpa using h3, fun j hj hlt => ?_⟩
      cases j with
      | zero => simpa using hm
      | succ j => simpa using h4 j (by simpa using hj) (by omega)
    | cons x r =>
      have e : fireL i (os :: t) = ((i : Int), x) := by rw [fireL, hm]
      exact ⟨0, by simp, x, r, by rw [e]; rfl, by simpa using hm, fun j hj hlt => by omega⟩
theorem fire_plain (ks : List (List Ord)) : fireF ks = (-1, -1) ∨ ∃ (k : Nat) (h1 : k < ks.length) (x : Int) (r : List Int), fireF ks = ((k : Int), x) ∧ kitB ks = true ∧ mayF ks[k] = x :: r ∧ ∀ (j : Nat) (hj : j < ks.length), j < k → mayF ks[j] = [] := by
  cases hk : kitB ks
  · exact .inl (fireF_no hk)
  · rw [fireF_yes hk]
    by_cases h : (fireL 0 ks).1 < 0
    · exact .inl (fireL_neg ks 0 h).1
    · obtain ⟨k, h1, x, r, h2, h3, h4⟩ := fireL_first ks 0 h
      exact .inr ⟨k, h1, x, r, by rw [h2]; congr 2; omega, rfl, h3, h4⟩
/-- In a valid ticket of which nothing was fired or cooked, and nothing may be fired, all is done. -/
theorem stuck_done {os : List Ord} (h : ticketB os = true) (h2 : ∀ o ∈ os, o.2 ≠ 2) (h1 : ∀ o ∈ os, o.2 ≠ 1) (hm : mayF os = []) : doneB os = true := by
  rw [done_iff h]
  rcases crs_spec os (ticket_course0 h) with ⟨-, h4⟩ | ⟨h3, ⟨x, hx, h4, h5⟩, -⟩
  · intro o ho; have := h4 o ho; omega
  · exfalso
    obtain ⟨j, hj, rfl⟩ := List.getElem_of_mem hx
    have hs := ticket_state h _ hx
    have ha := h2 _ hx
    have hb := h1 _ hx
    have h0 : os[j].2 = 0 := by omega
    have := may_plain h j hj
    rw [hm, courseF_yes h, h4, h0] at this
    simp at this
theorem step_fact {ks : List (List Ord)} (h : kitB ks = true) :
    (∃ (k j : Nat) (hk : k < ks.length) (hj : j < ks[k].length) (s : Int), stepF ks = (ks.set k (ks[k].set j (ks[k][j].1, s)), true) ∧ ticketB (ks[k].set j (ks[k][j].1, s)) = true ∧ ks[k][j].2 = s - 1 ∧ 1 ≤ s ∧ s ≤ 3) ∨
    (stepF ks = (ks, false) ∧ ks.all doneB = true) := by
  cases h2 : fk 2 0 ks with
  | some p =>
    obtain ⟨k, j⟩ := p
    obtain ⟨-, hk, hj, hs⟩ := fk_some 2 ks 0 k j h2
    simp only [Nat.sub_zero] at hk hj hs
    have ht := kit_ticket h k hk
    exact .inl ⟨k, j, hk, hj, 3, by rw [stepF_2 h h2, putK_eq _ _ _ _ hk, setSt_eq _ _ _ hj], ticket_up ht j hj 3 (by omega) (by omega) (by omega) (by omega) (by omega), by omega, by omega, by omega⟩
  | none =>
    cases h1 : fk 1 0 ks with
    | some p =>
      obtain ⟨k, j⟩ := p
      obtain ⟨-, hk, hj, hs⟩ := fk_some 1 ks 0 k j h1
      simp only [Nat.sub_zero] at hk hj hs
      have ht := kit_ticket h k hk
      exact .inl ⟨k, j, hk, hj, 2, by rw [stepF_1 h h2 h1, putK_eq _ _ _ _ hk, setSt_eq _ _ _ hj], ticket_up ht j hj 2 (by omega) (by omega) (by omega) (by omega) (by omega), by omega, by omega, by omega⟩
    | none =>
      by_cases h0 : (fireF ks).1 < 0
      · refine .inr ⟨stepF_end h h2 h1 h0, ?_⟩
        rw [List.all_eq_true]
        intro os ho
        rw [fireF_yes h] at h0
        exact stuck_done (kit_all h os ho) (fk_none 2 ks 0 h2 os ho) (fk_none 1 ks 0 h1 os ho) ((fireL_neg ks 0 h0).2 os ho)
      · obtain ⟨k, j, hk, he, hj, hd⟩ := fire_some h h0
        have ht := kit_ticket h k hk
        have hn : ¬ nextF ks[k][j].2 0 < 0 := fun hn => by rw [doF_3 ht hj hn] at hd; cases hd
        have h00 : ks[k][j].2 = 0 := by
          unfold nextF at hn
          by_cases h00 : ks[k][j].2 = 0
          · exact h00
          · simp [h00] at hn
        have e1 : nextF ks[k][j].2 0 = 1 := by rw [h00]; rfl
        cases hs : ticketB (ks[k].set j (ks[k][j].1, nextF ks[k][j].2 0))
        · rw [doF_5 ht hj hn hs] at hd; cases hd
        · rw [e1] at hs
          exact .inl ⟨k, j, hk, hj, 1, by rw [stepF_0 h h2 h1 he, putK_eq _ _ _ _ hk, setSt_eq _ _ _ hj], hs, by omega, by omega, by omega⟩
/-- What one piece of work does to a valid kitchen. -/
theorem step_law {ks : List (List Ord)} (h : kitB ks = true) : kitB (stepF ks).1 = true ∧ (stepF ks).2 = !(ks.all doneB) ∧ ((stepF ks).2 = true → leftK (stepF ks).1 = leftK ks - 1) ∧ ((stepF ks).2 = false → (stepF ks).1 = ks) := by
  have hdl := leftK_done (kit_all h)
  rcases step_fact h with ⟨k, j, hk, hj, s, he, ht, hs, hs1, hs3⟩ | ⟨he, hd⟩
  · have hl : leftK (ks.set k (ks[k].set j (ks[k][j].1, s))) = leftK ks - 1 := by
      rw [leftK_set _ _ hk, leftT_set _ _ hj]
      have : leftO (ks[k][j].1, s) = leftO ks[k][j] - 1 := by unfold leftO; simp only; split <;> split <;> omega
      omega
    have hk2 := kit_set h k ht
    have h0 := leftK_done (kit_all hk2)
    rw [he]
    refine ⟨hk2, ?_, fun _ => hl, fun h => by cases h⟩
    rw [hdl.2]
    have : ¬ leftK ks = 0 := by omega
    simp [this]
  · rw [he]
    exact ⟨h, by rw [hd]; rfl, (fun h => by cases h), fun _ => rfl⟩
/-! ### a run -/
def itK : Nat → List (List Ord) → List (List Ord)
  | 0, ks => ks
  | n + 1, ks => itK n (stepF ks).1
theorem itK_add : ∀ (a b : Nat) (ks : List (List Ord)), itK (a + b) ks = itK b (itK a ks)
  | 0, b, ks => by rw [Nat.zero_add]; rfl
  | a + 1, b, ks => by rw [show a + 1 + b = a + b + 1 by omega, itK, itK_add a b]; rfl
theorem itK_kit : ∀ (n : Nat) {ks : List (List Ord)}, kitB ks = true → kitB (itK n ks) = true
  | 0, ks, h => h
  | n + 1, ks, h => itK_kit n (step_law h).1
theorem itK_stop : ∀ (n : Nat) {ks : List (List Ord)}, (stepF ks).1 = ks → itK n ks = ks
  | 0, ks, h => rfl
  | n + 1, ks, h => by rw [itK, h]; exact itK_stop n h
theorem runG_it : ∀ (m : Nat) {ks : List (List Ord)} (d : Nat), kitB ks = true → runG ks m d = (itK m ks, d + min m (leftK ks).toNat)
  | 0, ks, d, h => by simp [runG, itK]
  | m + 1, ks, d, h => by
    obtain ⟨h1, h2, h3, h4⟩ := step_law h
    have hdl := leftK_done (kit_all h)
    cases hs : (stepF ks).2
    · rw [runG_stop hs, itK_stop _ (h4 hs)]
      rw [hs, hdl.2] at h2
      have h0 : leftK ks = 0 := by simpa using h2
      rw [h0]; simp
    · have hd2 := leftK_done (kit_all h1)
      have e := h3 hs
      rw [runG_step hs, runG_it m _ h1, e, itK]
      congr 1
      omega
theorem it_left : ∀ (n : Nat) {ks : List (List Ord)}, kitB ks = true → leftK (itK n ks) = ((leftK ks).toNat - n : Nat)
  | 0, ks, h => by have := leftK_done (kit_all h); rw [itK]; omega
  | n + 1, ks, h => by
    obtain ⟨h1, h2, h3, h4⟩ := step_law h
    have hdl := leftK_done (kit_all h)
    have hd2 := leftK_done (kit_all h1)
    rw [itK, it_left n h1]
    cases hs : (stepF ks).2
    · rw [hs, hdl.2] at h2
      have h0 : leftK ks = 0 := by simpa using h2
      rw [h4 hs, h0]; simp
    · rw [h3 hs]; omega
theorem it_done {n : Nat} {ks : List (List Ord)} (h : kitB ks = true) (hn : (leftK ks).toNat ≤ n) : (itK n ks).all doneB = true := by
  rw [(leftK_done (kit_all (itK_kit n h))).2, it_left n h]
  simp; omega
/-- The lengths stay, and what was taken back. -/
def sameTaken (a b : List (List Ord)) : Prop := ∃ hl : a.length = b.length, ∀ k (h : k < a.length), ∃ h2 : a[k].length = b[k].length, ∀ j (hj : j < a[k].length), a[k][j].2 = 4 ↔ b[k][j].2 = 4
theorem sameTaken.refl (a : List (List Ord)) : sameTaken a a := ⟨rfl, fun _ _ => ⟨rfl, fun _ _ => Iff.rfl⟩⟩
theorem sameTaken.trans {a b c : List (List Ord)} (h : sameTaken a b) (h' : sameTaken b c) : sameTaken a c := by
  obtain ⟨e, h⟩ := h
  obtain ⟨e', h'⟩ := h'
  refine ⟨e.trans e', fun k hk => ?_⟩
  obtain ⟨f, h⟩ := h k hk
  obtain ⟨f', h'⟩ := h' k (by omega)
  exact ⟨f.trans f', fun j hj => (h j hj).trans (h' j (by omega))⟩
theorem step_taken {ks : List (List Ord)} (h : kitB ks = true) : sameTaken (stepF ks).1 ks := by
  rcases step_fact h with ⟨k, j, hk, hj, s, he, ht, hs, hs1, hs3⟩ | ⟨he, hd⟩
  · rw [he]
    refine ⟨by simp, fun i hi => ?_⟩
    have hi' : i < ks.length := by simpa using hi
    have e : (ks.set k (ks[k].set j (ks[k][j].1, s)))[i] = if k = i then ks[k].set j (ks[k][j].1, s) else ks[i] := by rw [List.getElem_set]
    by_cases hki : k = i
    · subst hki
      rw [if_pos rfl] at e
      simp only [e]
      refine ⟨by simp, fun l hl => ?_⟩
      have e2 : (ks[k].set j (ks[k][j].1, s))[l] = if j = l then (ks[k][j].1, s) else ks[k][l]'(by simpa using hl) := by rw [List.getElem_set]
      rw [e2]
      by_cases hjl : j = l
      · subst hjl
        rw [if_pos rfl]; simp only; omega
      · rw [if_neg hjl]
    · rw [if_neg hki] at e
      simp only [e]
      exact ⟨trivial, fun _ _ => trivial⟩
  · rw [he]; exact sameTaken.refl _
theorem it_taken : ∀ (n : Nat) {ks : List (List Ord)}, kitB ks = true → sameTaken (itK n ks) ks
  | 0, ks, h => sameTaken.refl _
  | n + 1, ks, h => (it_taken n (step_law h).1).trans (step_taken h)
/-- What a run of a valid kitchen gives. -/
theorem run_law {ks : List (List Ord)} (h : kitB ks = true) {m : Nat} (hm : m ≤ 99) : runF ks (m : Int) = (itK m ks, min m (leftK ks).toNat) := by
  rw [runF_yes h hm, runG_it m 0 h, Nat.zero_add]
end Go.Proofs.YthbledeghanffaaDoor
