/- The flow through two cooks: its end as a fold over the order; Johnson's order is the best one. Plain facts, no program in sight. -/
import Derived.Test.YtnehedcelfpegaaDoorBest
import Derived.Test.YtnehedcelfpegaaDoorTogQ
import Derived.Test.YtnehedcelfpegaaDoorFlow3
set_option linter.unusedVariables false
set_option linter.unusedSimpArgs false
namespace Go.Proofs.YtnehedcelfpegaaDoor

theorem hasB_iff (xs : List Int) (n : Int) : hasB xs n = true ↔ n ∈ xs := by simp [hasB]
theorem orderB_iff {order : List Int} {m : Nat} : orderB order m = true ↔ order.length = m ∧ order.Nodup ∧ ∀ x ∈ order, 0 ≤ x ∧ x < m := by
  have key : ordUpTo order m order.length = true ↔ order.Nodup ∧ ∀ x ∈ order, 0 ≤ x ∧ x < m := by
    simp only [ordUpTo, List.all_eq_true, List.mem_range, ordP, Bool.and_eq_true, inB_true, Bool.not_eq_true']
    constructor
    · intro h
      refine ⟨List.pairwise_iff_getElem.2 fun i j hi hj hij e => ?_, fun x hx => ?_⟩
      · have h2 := (h j hj).2
        have : hasB (order.take j) (at0 order j) = true := by
          rw [hasB_iff, ← at0_eq hj, ← e]
          exact List.mem_take_iff_getElem.2 ⟨i, by omega, rfl⟩
        rw [this] at h2; cases h2
      · obtain ⟨k, hk, rfl⟩ := List.getElem_of_mem hx
        have := (h k hk).1
        rw [at0_eq hk]; omega
    · rintro ⟨hn, hr⟩ k hk
      have h1 := hr _ (at0_mem hk)
      refine ⟨by omega, ?_⟩
      cases hb : hasB (order.take k) (at0 order k)
      · rfl
      · rw [hasB_iff] at hb
        obtain ⟨i, hi, e⟩ := List.mem_take_iff_getElem.1 hb
        rw [← at0_eq hk] at e
        exact absurd e (List.pairwise_iff_getElem.1 hn i k (by omega) hk (by omega))
  rw [orderB, Bool.and_eq_true, key, decide_eq_true_eq]
  constructor
  · rintro ⟨⟨h1, h2⟩, h3⟩; exact ⟨h3, h1, h2⟩
  · rintro ⟨h3, h1, h2⟩; exact ⟨⟨h1, h2⟩, h3⟩
theorem order_mem {order : List Int} {m : Nat} (h : orderB order m = true) (z : Int) : z ∈ order ↔ 0 ≤ z ∧ z < m := by
  obtain ⟨h1, h2, h3⟩ := orderB_iff.1 h
  exact nodup_all order m h2 h1 h3 z

def flC (ds : List Dsh) : Int × Int → List Int → Int
  | s, [] => s.2
  | s, x :: l => flC ds (s.1 + dP ds x.toNat, max s.2 (s.1 + dP ds x.toNat) + dC ds x.toNat) l
theorem flC_drop (ds : List Dsh) (order : List Int) : ∀ j k, k + j = order.length → flC ds (fP ds order k, fC ds order k) (order.drop k) = fC ds order order.length
  | 0, k, h => by
    have e : k = order.length := by omega
    subst e
    simp [flC]
  | j + 1, k, h => by
    have hk : k < order.length := by omega
    rw [List.drop_eq_getElem_cons hk, flC, at0_eq hk]
    exact flC_drop ds order j (k + 1) (by omega)
theorem fC_last (ds : List Dsh) (order : List Int) : fC ds order order.length = flC ds (0, 0) order := by
  have := flC_drop ds order order.length 0 (by omega)
  rw [List.drop_zero] at this
  exact this.symm
theorem grF_nonneg (xs : List Int) : ∀ n, 0 ≤ grF xs n
  | 0 => by simp [grF]
  | n + 1 => by have := grF_nonneg xs n; rw [grF]; omega
theorem le_grF (xs : List Int) : ∀ n k, k < n → at0 xs k ≤ grF xs n
  | 0, k, h => by omega
  | n + 1, k, h => by
    rw [grF]
    by_cases e : k = n
    · subst e; omega
    · have := le_grF xs n k (by omega); omega
theorem grF_le (xs : List Int) (M : Int) (hM : 0 ≤ M) : ∀ n, (∀ k, k < n → at0 xs k ≤ M) → grF xs n ≤ M
  | 0, _ => by simpa [grF] using hM
  | n + 1, h => by
    have h1 := grF_le xs M hM n (fun k hk => h k (by omega))
    have h2 := h n (by omega)
    rw [grF]; omega
theorem fL_entry {ds : List Dsh} (h : dishB ds = true) (order : List Int) (j : Nat) : ∀ k, at0 (fL ds order k) j ≤ fC ds order k
  | 0 => by simp [fL, fC, at0, List.getD_eq_getElem?_getD, List.getElem?_replicate]; split <;> simp
  | k + 1 => by
    have h1 := fL_entry h order j k
    have h2 : fC ds order k ≤ fC ds order (k + 1) := by
      have := dP_bound h (at0 order k).toNat
      simp only [fC]; omega
    rw [fL]
    by_cases e : (at0 order k).toNat = j
    · subst e
      by_cases hl : (at0 order k).toNat < (fL ds order k).length
      · rw [at0_set_eq _ _ _ hl]; exact Int.le_refl _
      · rw [List.set_eq_of_length_le (by omega)]; omega
    · rw [at0_set_ne _ _ _ _ e]; omega
theorem endB_eq {ds : List Dsh} {order : List Int} (h : dishB ds = true) (h2 : orderB order ds.length = true) : endB ds order = flC ds (0, 0) order := by
  have hl := ord_len h2
  rw [endB_ok h h2, endsB_ok h h2, fL_length, ← fC_last, ← hl]
  have h0 := (fP_bound h order order.length).2.2.1
  apply Int.le_antisymm
  · exact grF_le _ _ h0 _ fun k _ => fL_entry h order k _
  · cases hn : order.length with
    | zero => simp [grF, fC]
    | succ n =>
      have hat := ord_at h2 n (by omega)
      have hlt : (at0 order n).toNat < (fL ds order n).length := by rw [fL_length]; omega
      have := le_grF (fL ds order (n + 1)) (n + 1) (at0 order n).toNat (by omega)
      rw [fL, at0_set_eq _ _ _ hlt] at this
      rw [fL]
      exact this
theorem flC_mono {ds : List Dsh} : ∀ (l : List Int) (s s' : Int × Int), s.1 = s'.1 → s.2 ≤ s'.2 → flC ds s l ≤ flC ds s' l
  | [], s, s', _, h => h
  | x :: l, s, s', h1, h2 => by
    rw [flC, flC]
    refine flC_mono l _ _ (by simp [h1]) ?_
    simp only [h1]; omega

/-! ### Johnson's order -/
def jc (ds : List Dsh) (a b : Int) : Int :=
  if dP ds a.toNat < dC ds a.toNat then (if dP ds b.toNat < dC ds b.toNat then dP ds a.toNat - dP ds b.toNat else -1)
  else if dP ds b.toNat < dC ds b.toNat then 1 else dC ds b.toNat - dC ds a.toNat
def jR (ds : List Dsh) (a b : Int) : Prop := jc ds a b < 0 ∨ (jc ds a b = 0 ∧ a < b)
instance (ds : List Dsh) (a b : Int) : Decidable (jR ds a b) := by unfold jR; exact inferInstance
theorem jR_asymm (ds : List Dsh) (a b : Int) (h : jR ds a b) : ¬ jR ds b a := by
  unfold jR jc at *; omega
theorem jR_trans (ds : List Dsh) (a b c : Int) (h : jR ds a b) (k : jR ds b c) : jR ds a c := by
  unfold jR jc at *; omega
theorem jR_total (ds : List Dsh) (a b : Int) (h : a ≠ b) : jR ds a b ∨ jR ds b a := by
  unfold jR jc at *; omega
theorem flC_swap {ds : List Dsh} (h : dishB ds = true) (x y : Int) (l : List Int) (s : Int × Int) (hr : jR ds y x) : flC ds s (y :: x :: l) ≤ flC ds s (x :: y :: l) := by
  have h1 := dP_bound h x.toNat
  have h2 := dP_bound h y.toNat
  have hr2 : min (dP ds y.toNat) (dC ds x.toNat) ≤ min (dP ds x.toNat) (dC ds y.toNat) := by unfold jR jc at hr; omega
  rw [flC, flC, flC, flC]
  refine flC_mono l _ _ ?_ ?_
  · simp only; omega
  · simp only; omega
/-- No order ends earlier than the one that ascends by jR. -/
theorem flow_least {ds : List Dsh} (h : dishB ds = true) {order ys : List Int} (ho : orderB order ds.length = true) (hy : ys.Pairwise (jR ds)) (hm : ∀ z, z ∈ ys ↔ 0 ≤ z ∧ z < ds.length) : flC ds (0, 0) ys ≤ flC ds (0, 0) order := by
  refine sorted_least (flC ds) (jR ds) (jR_asymm ds) (jR_trans ds) (jR_total ds) (fun x l l' hl s => ?_) (fun x y l s hr => flC_swap h x y l s hr) order ys (orderB_iff.1 ho).2.1 hy (fun z => by rw [hm, order_mem ho]) (0, 0)
  rw [flC, flC]; exact hl _

def bestF (ds : List Dsh) : List Int := if dishB ds then sortTo (jc ds) (idx ds.length) (ds.length - 1) else []
theorem bestF_no {ds : List Dsh} (h : dishB ds = false) : bestF ds = [] := by simp [bestF, h]
theorem bestF_yes {ds : List Dsh} (h : dishB ds = true) : bestF ds = sortTo (jc ds) (idx ds.length) (ds.length - 1) := by simp [bestF, h]
def sel (p : Int → Bool) (k : Nat) : List Int := (idx k).filter p
theorem sel_zero (p : Int → Bool) : sel p 0 = [] := by simp [sel, idx]
theorem sel_yes {p : Int → Bool} {k : Nat} (h : p (k : Int) = true) : sel p (k + 1) = sel p k ++ [(k : Int)] := by rw [sel, idx_succ, List.filter_append, sel]; simp [h]
theorem sel_no {p : Int → Bool} {k : Nat} (h : p (k : Int) = false) : sel p (k + 1) = sel p k := by rw [sel, idx_succ, List.filter_append, sel]; simp [h]
theorem sel_len (p : Int → Bool) (k : Nat) : (sel p k).length ≤ k := by
  have := List.length_filter_le p (idx k)
  rw [idx_length] at this; exact this
theorem sel_mem (p : Int → Bool) (k : Nat) (z : Int) : z ∈ sel p k ↔ (0 ≤ z ∧ z < k) ∧ p z = true := by rw [sel, List.mem_filter, idx_mem]
def p1 (ds : List Dsh) (t : Nat) (z : Int) : Bool := decide (dP ds z.toNat < dC ds z.toNat) && (dP ds z.toNat == (t : Int))
def p2 (ds : List Dsh) (t : Nat) (z : Int) : Bool := !decide (dP ds z.toNat < dC ds z.toNat) && (dC ds z.toNat == 30 - (t : Int))
def fb1 (ds : List Dsh) : Nat → List Int
  | 0 => []
  | t + 1 => fb1 ds t ++ sel (p1 ds t) ds.length
def fb2 (ds : List Dsh) : Nat → List Int
  | 0 => []
  | t + 1 => fb2 ds t ++ sel (p2 ds t) ds.length
theorem fb1_mem (ds : List Dsh) (h : dishB ds = true) (z : Int) : ∀ t, z ∈ fb1 ds t ↔ (0 ≤ z ∧ z < ds.length) ∧ dP ds z.toNat < dC ds z.toNat ∧ dP ds z.toNat < (t : Int)
  | 0 => by have := dP_bound h z.toNat; simp [fb1]; omega
  | t + 1 => by
    rw [fb1, List.mem_append, fb1_mem ds h z t, sel_mem, p1, Bool.and_eq_true, beq_iff_eq, decide_eq_true_eq]; omega
theorem fb2_mem (ds : List Dsh) (z : Int) : ∀ t, z ∈ fb2 ds t ↔ (0 ≤ z ∧ z < ds.length) ∧ ¬ dP ds z.toNat < dC ds z.toNat ∧ 30 - (t : Int) < dC ds z.toNat ∧ dC ds z.toNat ≤ 30
  | 0 => by simp [fb2] <;> omega
  | t + 1 => by
    rw [fb2, List.mem_append, fb2_mem ds z t, sel_mem, p2, Bool.and_eq_true, beq_iff_eq, Bool.not_eq_true', decide_eq_false_iff_not]; omega
theorem sel_sorted (ds : List Dsh) (p : Int → Bool) (k : Nat) (h : ∀ a b, p a = true → p b = true → jc ds a b = 0) : (sel p k).Pairwise (jR ds) := by
  have := (idx_sorted k).filter p
  refine (List.Pairwise.and_mem.1 this).imp ?_
  rintro a b ⟨ha, hb, hab⟩
  rw [List.mem_filter] at ha hb
  exact .inr ⟨h a b ha.2 hb.2, hab⟩
theorem fb1_sorted (ds : List Dsh) (h : dishB ds = true) : ∀ t, (fb1 ds t).Pairwise (jR ds)
  | 0 => by simp [fb1]
  | t + 1 => by
    rw [fb1, List.pairwise_append]
    refine ⟨fb1_sorted ds h t, sel_sorted ds _ _ fun a b ha hb => ?_, fun a ha b hb => ?_⟩
    · rw [p1, Bool.and_eq_true, beq_iff_eq, decide_eq_true_eq] at ha hb
      unfold jc; omega
    · rw [fb1_mem ds h] at ha
      rw [sel_mem, p1, Bool.and_eq_true, beq_iff_eq, decide_eq_true_eq] at hb
      unfold jR jc; omega
theorem fb2_sorted (ds : List Dsh) : ∀ t, (fb2 ds t).Pairwise (jR ds)
  | 0 => by simp [fb2]
  | t + 1 => by
    rw [fb2, List.pairwise_append]
    refine ⟨fb2_sorted ds t, sel_sorted ds _ _ fun a b ha hb => ?_, fun a ha b hb => ?_⟩
    · rw [p2, Bool.and_eq_true, beq_iff_eq, Bool.not_eq_true', decide_eq_false_iff_not] at ha hb
      unfold jc; omega
    · rw [fb2_mem ds] at ha
      rw [sel_mem, p2, Bool.and_eq_true, beq_iff_eq, Bool.not_eq_true', decide_eq_false_iff_not] at hb
      unfold jR jc; omega
theorem fb_sorted (ds : List Dsh) (h : dishB ds = true) : (fb1 ds 31 ++ fb2 ds 31).Pairwise (jR ds) := by
  rw [List.pairwise_append]
  refine ⟨fb1_sorted ds h 31, fb2_sorted ds 31, fun a ha b hb => ?_⟩
  rw [fb1_mem ds h] at ha
  rw [fb2_mem] at hb
  unfold jR jc; omega
theorem fb_mem (ds : List Dsh) (h : dishB ds = true) (z : Int) : z ∈ fb1 ds 31 ++ fb2 ds 31 ↔ 0 ≤ z ∧ z < ds.length := by
  have := dP_bound h z.toNat
  rw [List.mem_append, fb1_mem ds h, fb2_mem]; omega
theorem bestF_fb {ds : List Dsh} (h : dishB ds = true) : bestF ds = fb1 ds 31 ++ fb2 ds 31 := by
  rw [bestF_yes h]
  refine sortTo_is (jR ds) (jc ds) (jR_asymm ds) (jR_trans ds) ?_ ?_ ds.length _ (fb_sorted ds h) (fb_mem ds h)
  · intro a b h1; exact .inl h1
  · intro a b h1 h2
    unfold jR jc at *; omega
theorem bestF_order {ds : List Dsh} (h : dishB ds = true) : orderB (bestF ds) ds.length = true := by
  rw [orderB_iff]
  refine ⟨?_, ?_, fun x hx => ?_⟩
  · rw [bestF_yes h, sortTo_length, idx_length]
  · rw [bestF_fb h]
    exact (fb_sorted ds h).imp (fun {a b} hab e => by subst e; exact jR_asymm ds _ _ hab hab)
  · rw [bestF_fb h] at hx
    exact (fb_mem ds h x).1 hx
theorem best_least {ds : List Dsh} (h : dishB ds = true) {order : List Int} (ho : orderB order ds.length = true) : endB ds (bestF ds) ≤ endB ds order := by
  rw [endB_eq h ho, endB_eq h (bestF_order h)]
  refine flow_least h ho ?_ ?_
  · rw [bestF_fb h]; exact fb_sorted ds h
  · rw [bestF_fb h]; exact fb_mem ds h
end Go.Proofs.YtnehedcelfpegaaDoor
