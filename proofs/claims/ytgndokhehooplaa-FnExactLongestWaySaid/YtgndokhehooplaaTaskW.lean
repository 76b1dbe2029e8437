/- Tasks: the longest way, as a plain function on lists, and its law. No program in sight. -/
import Derived.Test.YtgndokhehooplaaTaskQ
set_option linter.unusedVariables false
set_option linter.unusedSimpArgs false
namespace Go.Proofs.Ytgndokhehooplaa
open Go.ChangeShapes Go.WideShapes Go.ChangeAt Go.RowKit

def meets (ts : List TskP) (es : List Int) (time : Int) (i : Int) : Bool := at0 es i.toNat + (tat ts i.toNat).1 == time
theorem endAt_cons (ts : List TskP) (es : List Int) (time i : Int) (r : List Int) : endAt ts es time (i :: r) = if meets ts es time i = true then i else endAt ts es time r := by
  rw [endAt, meets]; simp
/-- None of the first j meets. -/
def noneTo (ts : List TskP) (es : List Int) (time : Int) (zs : List Int) (j : Nat) : Prop := ∀ j', j' < j → meets ts es time (at0 zs j') = false
theorem noneTo_succ {ts : List TskP} {es : List Int} {time : Int} {zs : List Int} {j : Nat} (h : noneTo ts es time zs j) (hj : meets ts es time (at0 zs j) = false) : noneTo ts es time zs (j + 1) := by
  intro j' hj'
  by_cases e : j' = j
  · subst e; exact hj
  · exact h j' (by omega)
theorem endAt_found (ts : List TskP) (es : List Int) (time : Int) : ∀ (zs : List Int) (j : Nat), noneTo ts es time zs j → j < zs.length → meets ts es time (at0 zs j) = true → endAt ts es time zs = at0 zs j
  | [], j, _, hj, _ => absurd hj (by simp)
  | z :: zs, 0, _, _, h => by
    have : meets ts es time z = true := h
    rw [endAt_cons, if_pos this]; rfl
  | z :: zs, j + 1, hn, hj, h => by
    have h0 : meets ts es time z = false := hn 0 (by omega)
    rw [endAt_cons, h0]
    have := endAt_found ts es time zs j (fun j' hj' => hn (j' + 1) (by omega)) (by simpa using hj) h
    rw [if_neg (by simp), this]; rfl
theorem endAt_none (ts : List TskP) (es : List Int) (time : Int) : ∀ (zs : List Int), noneTo ts es time zs zs.length → endAt ts es time zs = 0
  | [], _ => rfl
  | z :: zs, hn => by
    have h0 : meets ts es time z = false := hn 0 (by simp)
    rw [endAt_cons, h0, if_neg (by simp)]
    exact endAt_none ts es time zs fun j' hj' => hn (j' + 1) (by simpa using hj')
theorem endAt_is (ts : List TskP) (es : List Int) (time : Int) : ∀ (zs : List Int), (∃ z, z ∈ zs ∧ meets ts es time z = true) → endAt ts es time zs ∈ zs ∧ meets ts es time (endAt ts es time zs) = true
  | [], ⟨z, h, _⟩ => absurd h (by simp)
  | z :: zs, ⟨y, hy, hm⟩ => by
    rw [endAt_cons]
    by_cases e : meets ts es time z = true
    · rw [if_pos e]; exact ⟨by simp, e⟩
    · rw [if_neg e]
      have hy2 : y ∈ zs := by
        rcases List.mem_cons.1 hy with h | h
        · subst h; exact absurd hm e
        · exact h
      obtain ⟨h1, h2⟩ := endAt_is ts es time zs ⟨y, hy2, hm⟩
      exact ⟨by simp [h1], h2⟩
theorem mem_at0 {xs : List Int} {x : Int} (h : x ∈ xs) : ∃ j, j < xs.length ∧ at0 xs j = x := by
  obtain ⟨j, hj, e⟩ := List.getElem_of_mem h
  exact ⟨j, hj, by rw [← at0_eq hj]; exact e⟩
theorem at0_memT {xs : List Int} {j : Nat} (h : j < xs.length) : at0 xs j ∈ xs := by rw [← at0_eq h]; exact List.getElem_mem h

/-! ### the way -/
def stepW (ts : List TskP) (es : List Int) (a : Int) : Int := endAt ts es (at0 es a.toNat) (tat ts a.toNat).2
/-- The way that ends at a, from its begin on (f: how many steps there may be). -/
def wayR (ts : List TskP) (es : List Int) : Nat → Int → List Int
  | 0, a => [a]
  | f + 1, a => if 0 < at0 es a.toNat then wayR ts es f (stepW ts es a) ++ [a] else [a]
def lastW (ts : List TskP) : Int := endAt ts (early ts ts.length) (endF ts) (idx ts.length)
def wayF (ts : List TskP) : List Int := if tasksB ts && decide (0 < ts.length) then wayR ts (early ts ts.length) ts.length (lastW ts) else []
theorem wayF_no {ts : List TskP} (h : tasksB ts = false) : wayF ts = [] := by simp [wayF, h]
theorem wayF_nil {ts : List TskP} (h : ts.length = 0) : wayF ts = [] := by simp [wayF, h]
theorem wayF_yes {ts : List TskP} (h : tasksB ts = true) (hp : 0 < ts.length) : wayF ts = wayR ts (early ts ts.length) ts.length (lastW ts) := by simp [wayF, h, hp]
theorem wayR_zero (ts : List TskP) (es : List Int) (f : Nat) {a : Int} (h : ¬ 0 < at0 es a.toNat) : wayR ts es f a = [a] := by
  cases f with
  | zero => rfl
  | succ f => rw [wayR, if_neg h]
theorem wayR_step (ts : List TskP) (es : List Int) (f : Nat) {a : Int} (h : 0 < at0 es a.toNat) : wayR ts es (f + 1) a = wayR ts es f (stepW ts es a) ++ [a] := by rw [wayR, if_pos h]
theorem wayR_len (ts : List TskP) (es : List Int) : ∀ f a, 1 ≤ (wayR ts es f a).length ∧ (wayR ts es f a).length ≤ f + 1
  | 0, a => by simp [wayR]
  | f + 1, a => by
    rw [wayR]
    split
    · have := wayR_len ts es f (stepW ts es a)
      simp; omega
    · simp
theorem wayF_len (ts : List TskP) : (wayF ts).length ≤ 8 := by
  unfold wayF
  split
  · rename_i h
    simp only [Bool.and_eq_true, decide_eq_true_eq] at h
    have h1 := (wayR_len ts (early ts ts.length) ts.length (lastW ts)).2
    have h2 := tasks_len h.1
    omega
  · simp
/-- What a step does where a task waits for one before it. -/
theorem step_is {ts : List TskP} (h : tasksB ts = true) {a : Nat} (ha : a < ts.length) (hp : 0 < at0 (early ts ts.length) a) :
    ∃ b : Nat, stepW ts (early ts ts.length) a = b ∧ b < a ∧ (∃ j, j < (tat ts a).2.length ∧ afA (tat ts a).2 j = b ∧ at0 (tat ts a).2 j = b) ∧ at0 (early ts ts.length) b + (tat ts b).1 = at0 (early ts ts.length) a := by
  rcases early_is h a ha with e | ⟨j, hj, e⟩
  · omega
  · obtain ⟨h1, h2⟩ := endAt_is ts (early ts ts.length) (at0 (early ts ts.length) a) (tat ts a).2 ⟨at0 (tat ts a).2 j, at0_memT hj, by
      have e2 : (at0 (tat ts a).2 j).toNat = afA (tat ts a).2 j := rfl
      rw [meets, e2, ← e]; simp⟩
    obtain ⟨j', hj', e'⟩ := mem_at0 h1
    have hr := task_after h a ha j' hj'
    refine ⟨afA (tat ts a).2 j', ?_, afA_lt h ha hj', ⟨j', hj', rfl, ?_⟩, ?_⟩
    · rw [stepW, Int.toNat_natCast, ← e']; unfold afA; omega
    · unfold afA; omega
    · rw [← e', meets] at h2
      unfold afA
      simpa using h2
theorem last_is {ts : List TskP} (h : tasksB ts = true) (hp : 0 < ts.length) : ∃ b : Nat, lastW ts = b ∧ b < ts.length ∧ endF ts = at0 (early ts ts.length) b + (tat ts b).1 := by
  obtain ⟨k, hk, e⟩ := end_is h hp
  obtain ⟨h1, h2⟩ := endAt_is ts (early ts ts.length) (endF ts) (idx ts.length) ⟨(k : Int), List.mem_map.2 ⟨k, List.mem_range.2 hk, rfl⟩, by rw [meets, Int.toNat_natCast, e]; simp⟩
  simp only [idx, List.mem_map, List.mem_range] at h1
  obtain ⟨b, hb, eb⟩ := h1
  refine ⟨b, eb.symm, hb, ?_⟩
  have e3 : idx ts.length = (List.range ts.length).map fun j : Nat => (j : Int) := rfl
  rw [e3, ← eb, meets, Int.toNat_natCast] at h2
  simp at h2
  omega
/-- A way: each task waits for the one before it, and none can wait. -/
structure WayOk (ts : List TskP) (L : List Int) (a : Int) : Prop where
  pos : 0 < L.length
  last : at0 L (L.length - 1) = a
  first : at0 (early ts ts.length) (at0 L 0).toNat = 0
  at_ : ∀ k, k < L.length → 0 ≤ at0 L k ∧ at0 L k < ts.length ∧ at0 (early ts ts.length) (at0 L k).toNat = at0 (lateK ts ts.length) (at0 L k).toNat
  next : ∀ k, k + 1 < L.length → at0 L k ∈ (tat ts (at0 L (k + 1)).toNat).2 ∧ at0 (early ts ts.length) (at0 L (k + 1)).toNat = at0 (early ts ts.length) (at0 L k).toNat + (tat ts (at0 L k).toNat).1
theorem at0_push (xs : List Int) (y : Int) (k : Nat) : at0 (xs ++ [y]) k = if k < xs.length then at0 xs k else if k = xs.length then y else 0 := by
  by_cases h : k < xs.length
  · rw [if_pos h, at0_append_left _ _ _ h]
  · rw [if_neg h]
    by_cases e : k = xs.length
    · rw [if_pos e, e]; exact at0_append_at xs [] y
    · rw [if_neg e, at0_out (by simp; omega)]
theorem way_one {ts : List TskP} {a : Nat} (ha : a < ts.length) (he : at0 (early ts ts.length) a = 0) (hl : at0 (early ts ts.length) a = at0 (lateK ts ts.length) a) : WayOk ts [(a : Int)] a := by
  have e0 : at0 [(a : Int)] 0 = a := rfl
  refine ⟨by simp, rfl, by rw [e0, Int.toNat_natCast]; exact he, fun k hk => ?_, fun k hk => by simp at hk⟩
  have : k = 0 := by simp at hk; exact hk
  subst this
  rw [e0, Int.toNat_natCast]
  exact ⟨by omega, by omega, hl⟩
theorem way_push {ts : List TskP} {L : List Int} {b : Int} {a : Nat} (h : WayOk ts L b) (ha : a < ts.length) (hb : b ∈ (tat ts a).2) (he : at0 (early ts ts.length) a = at0 (early ts ts.length) b.toNat + (tat ts b.toNat).1)
    (hl : at0 (early ts ts.length) a = at0 (lateK ts ts.length) a) : WayOk ts (L ++ [(a : Int)]) a := by
  have hp := h.pos
  refine ⟨by simp, ?_, ?_, fun k hk => ?_, fun k hk => ?_⟩
  · rw [at0_push, List.length_append]; simp
  · rw [at0_push, if_pos hp]; exact h.first
  · rw [at0_push]
    by_cases e : k < L.length
    · rw [if_pos e]; exact h.at_ k e
    · rw [if_neg e, if_pos (by simp at hk; omega), Int.toNat_natCast]
      exact ⟨by omega, by omega, hl⟩
  · rw [at0_push, at0_push]
    by_cases e : k + 1 < L.length
    · rw [if_pos e, if_pos (by omega)]; exact h.next k e
    · have e2 : k = L.length - 1 := by simp at hk; omega
      have e3 : k + 1 = L.length := by omega
      rw [if_neg e, if_pos (show k < L.length by omega), if_pos e3, Int.toNat_natCast, e2, h.last]
      exact ⟨hb, he⟩
theorem way_ok {ts : List TskP} (h : tasksB ts = true) : ∀ (f a : Nat), a < ts.length → a ≤ f → at0 (lateK ts ts.length) a = at0 (early ts ts.length) a → WayOk ts (wayR ts (early ts ts.length) f a) a := by
  intro f
  induction f with
  | zero =>
    intro a ha hf hl
    have e : a = 0 := by omega
    subst e
    refine way_one ha ?_ hl.symm
    rcases early_is h 0 ha with e | ⟨j, hj, e⟩
    · exact e
    · have := afA_lt h ha hj; omega
  | succ f ih =>
    intro a ha hf hl
    by_cases hp : 0 < at0 (early ts ts.length) a
    · obtain ⟨b, e1, e2, ⟨j, hj, e3, e4⟩, e5⟩ := step_is h ha hp
      rw [wayR_step _ _ _ (by rw [Int.toNat_natCast]; exact hp), e1]
      have hlb := late_before h a ha j hj hl (by rw [e3]; exact e5)
      rw [e3] at hlb
      refine way_push (ih b (by omega) (by omega) hlb) ha (by rw [← e4]; exact at0_memT hj) ?_ hl.symm
      rw [Int.toNat_natCast]; omega
    · rw [wayR_zero _ _ _ (by rw [Int.toNat_natCast]; exact hp)]
      have := (early_bound h ts.length a).1
      exact way_one ha (by omega) hl.symm
theorem wayF_ok {ts : List TskP} (h : tasksB ts = true) (hp : 0 < ts.length) : ∃ a : Nat, a < ts.length ∧ endF ts = at0 (early ts ts.length) a + (tat ts a).1 ∧ WayOk ts (wayF ts) a := by
  obtain ⟨b, e1, e2, e3⟩ := last_is h hp
  refine ⟨b, e2, e3, ?_⟩
  rw [wayF_yes h hp, e1]
  exact way_ok h _ b e2 (by omega) (late_end h b e2 e3)
/-- The spans of the first k tasks of a way together. -/
def spW (ts : List TskP) (L : List Int) (k : Nat) : Int := ((List.range k).map fun i => (tat ts (at0 L i).toNat).1).sum
theorem spW_succ (ts : List TskP) (L : List Int) (k : Nat) : spW ts L (k + 1) = spW ts L k + (tat ts (at0 L k).toNat).1 := by simp [spW, List.range_succ]
theorem spW_bound {ts : List TskP} (h : tasksB ts = true) (L : List Int) : ∀ k, 0 ≤ spW ts L k ∧ spW ts L k ≤ 30 * k
  | 0 => by simp [spW]
  | k + 1 => by
    have h1 := spW_bound h L k
    have h2 := task_span h (at0 L k).toNat
    rw [spW_succ]; omega
theorem spW_at {ts : List TskP} {L : List Int} {a : Int} (h : WayOk ts L a) : ∀ k, k < L.length → spW ts L k = at0 (early ts ts.length) (at0 L k).toNat
  | 0, _ => by rw [h.first]; rfl
  | k + 1, hk => by rw [spW_succ, spW_at h k (by omega), (h.next k hk).2]
theorem spW_all {ts : List TskP} {L : List Int} {a : Nat} (h : WayOk ts L a) (he : endF ts = at0 (early ts ts.length) a + (tat ts a).1) : spW ts L L.length = endF ts := by
  obtain ⟨k, hk⟩ : ∃ k, L.length = k + 1 := ⟨L.length - 1, by have := h.pos; omega⟩
  have h1 := h.last
  rw [show L.length - 1 = k by omega] at h1
  rw [hk, spW_succ, spW_at h k (by omega), h1, Int.toNat_natCast, he]
theorem has_mem {xs : List Int} {x : Int} (h : x ∈ xs) : hasB xs x = true := by
  rw [hasB, List.any_eq_true]
  exact ⟨x, h, by simp⟩
end Go.Proofs.Ytgndokhehooplaa
