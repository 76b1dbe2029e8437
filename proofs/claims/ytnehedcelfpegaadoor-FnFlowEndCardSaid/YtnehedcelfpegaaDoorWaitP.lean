/- TogetherWaits: sums over an order; the longest first waits least; an order and the other direction together. Plain facts. -/
import Derived.Test.YtnehedcelfpegaaDoorFlowP
set_option linter.unusedVariables false
set_option linter.unusedSimpArgs false
namespace Go.Proofs.YtnehedcelfpegaaDoor

def wC (s : Int → Int) : Int → List Int → Int
  | _, [] => 0
  | t, x :: l => t * s x + wC s (t + 1) l
def sC (s : Int → Int) (l : List Int) : Int := (l.map s).sum
theorem sC_cons (s : Int → Int) (x : Int) (l : List Int) : sC s (x :: l) = s x + sC s l := by simp [sC]
theorem sC_append (s : Int → Int) (l l' : List Int) : sC s (l ++ l') = sC s l + sC s l' := by simp [sC]
theorem sC_reverse (s : Int → Int) (l : List Int) : sC s l.reverse = sC s l := by
  induction l with
  | nil => rfl
  | cons x r ih => rw [List.reverse_cons, sC_append, sC_cons, ih, sC_cons]; simp [sC]; omega
theorem wC_up (s : Int → Int) : ∀ (l : List Int) (t : Int), wC s (t + 1) l = wC s t l + sC s l
  | [], t => by simp [wC, sC]
  | x :: l, t => by rw [wC, wC, wC_up s l (t + 1), sC_cons, Int.add_mul]; omega
theorem wC_snoc (s : Int → Int) (x : Int) : ∀ (l : List Int) (t : Int), wC s t (l ++ [x]) = wC s t l + (t + l.length) * s x
  | [], t => by simp [wC]
  | y :: l, t => by
    rw [List.cons_append, wC, wC, wC_snoc s x l (t + 1), List.length_cons]
    have e : t + 1 + (l.length : Int) = t + ((l.length + 1 : Nat) : Int) := by omega
    rw [e]; omega
theorem wC_both (s : Int → Int) : ∀ l : List Int, wC s 0 l + wC s 0 l.reverse = ((l.length : Int) - 1) * sC s l
  | [] => by simp [wC, sC]
  | x :: r => by
    have ih := wC_both s r
    have h1 := wC_up s r 0
    rw [List.reverse_cons, wC_snoc, wC, sC_cons, List.length_reverse, List.length_cons, h1]
    have e : (((r.length + 1 : Nat) : Int) - 1) = (r.length : Int) := by omega
    rw [e, Int.mul_add, Int.sub_mul] at *
    have e2 : (0 + (r.length : Int)) * s x = r.length * s x := by rw [Int.zero_add]
    rw [e2]; omega
theorem wC_nonneg (s : Int → Int) (h : ∀ x, 0 ≤ s x) : ∀ (l : List Int) (t : Int), 0 ≤ t → 0 ≤ wC s t l
  | [], _, _ => by simp [wC]
  | x :: l, t, ht => by
    rw [wC]
    have h1 := wC_nonneg s h l (t + 1) (by omega)
    have h2 := Int.mul_nonneg ht (h x)
    omega
/-- What the program sums: for each dish what is left behind it. -/
def wI (s : Int → Int) (fin : Int) : Int → List Int → Int
  | _, [] => 0
  | now, x :: l => (fin - (now + s x)) + wI s fin (now + s x) l
theorem wI_eq (s : Int → Int) : ∀ (l : List Int) (now : Int), wI s (now + sC s l) now l = wC s 0 l
  | [], now => by simp [wI, wC]
  | x :: l, now => by
    rw [wI, wC, wC_up, sC_cons]
    have ih := wI_eq s l (now + s x)
    rw [show now + s x + sC s l = now + (s x + sC s l) by omega] at ih
    rw [ih]; omega
def sp (xs : List Int) (x : Int) : Int := at0 xs x.toNat
theorem wC_swap (xs : List Int) (x y : Int) (l : List Int) (t : Int) (hr : togR xs y x) : wC (sp xs) t (y :: x :: l) ≤ wC (sp xs) t (x :: y :: l) := by
  have : sp xs x ≤ sp xs y := by unfold togR at hr; unfold sp; omega
  rw [wC, wC, wC, wC, Int.add_mul, Int.add_mul]; omega
instance (xs : List Int) (a b : Int) : Decidable (togR xs a b) := by unfold togR; exact inferInstance
theorem togF_order {xs : List Int} (h : spansB xs = true) : orderB (togF xs) xs.length = true := by
  rw [orderB_iff]
  have hm : ∀ z, z ∈ togF xs ↔ 0 ≤ z ∧ z < xs.length := by
    intro z
    rw [togF_bkt h, bkt_mem]
    have := spans_bound h z.toNat
    omega
  refine ⟨?_, ?_, fun x hx => (hm x).1 hx⟩
  · rw [togF_yes h, sortTo_length, idx_length]
  · rw [togF_bkt h]
    exact (bkt_sorted xs 31).imp (fun {a b} hab e => by subst e; unfold togR at hab; omega)
theorem wait_least {xs : List Int} (h : spansB xs = true) {order : List Int} (ho : orderB order xs.length = true) : wC (sp xs) 0 (togF xs) ≤ wC (sp xs) 0 order := by
  refine sorted_least (wC (sp xs)) (togR xs) ?_ ?_ ?_ (fun x l l' hl t => ?_) (fun x y l t hr => wC_swap xs x y l t hr) order _ (orderB_iff.1 ho).2.1 ?_ (fun z => ?_) 0
  · intro a b h1 h2; unfold togR at h1 h2; omega
  · intro a b c h1 h2; unfold togR at *; omega
  · intro a b h1; unfold togR; omega
  · rw [wC, wC]; have := hl (t + 1); omega
  · rw [togF_bkt h]; exact bkt_sorted xs 31
  · rw [order_mem (togF_order h), order_mem ho]
theorem sum_idx (xs : List Int) : sC (sp xs) (idx xs.length) = xs.sum := by
  have : (idx xs.length).map (sp xs) = xs := by
    apply List.ext_getElem (by simp [idx])
    intro i h1 h2
    simp [idx, sp, at0, h2]
  rw [sC, this]
theorem sum_order {xs order : List Int} (ho : orderB order xs.length = true) : sC (sp xs) order = xs.sum := by
  rw [← sum_idx]
  have hn : (idx xs.length).Nodup := (idx_sorted xs.length).imp (fun {a b} h e => by omega)
  exact perm_sum (perm_of_mem order _ (orderB_iff.1 ho).2.1 hn (fun z => by rw [order_mem ho, idx_mem])) (sp xs)
theorem order_reverse {order : List Int} {m : Nat} (h : orderB order m = true) : orderB order.reverse m = true := by
  rw [orderB_iff] at *
  exact ⟨by rw [List.length_reverse]; exact h.1, (List.reverse_perm order).nodup_iff.2 h.2.1, fun x hx => h.2.2 x (List.mem_reverse.1 hx)⟩
theorem order_reverse_iff {order : List Int} {m : Nat} : orderB order.reverse m = orderB order m := by
  cases h : orderB order m
  · cases h2 : orderB order.reverse m
    · rfl
    · have := order_reverse h2
      rw [List.reverse_reverse, h] at this
      cases this
  · exact order_reverse h
end Go.Proofs.YtnehedcelfpegaaDoor
