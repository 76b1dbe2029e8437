/- The flow in the other direction; bounds of its end. Plain facts. -/
import Derived.Test.YtnehedcelfpegaaDoorWaitP
set_option linter.unusedVariables false
set_option linter.unusedSimpArgs false
namespace Go.Proofs.YtnehedcelfpegaaDoor

/-- The end of a flow from 0 on, over a list of dishes. -/
def gM : List Dsh → Int
  | [] => 0
  | d :: l => d.1 + max (d.2 + (l.map (·.2)).sum) (gM l)
def flD : Int × Int → List Dsh → Int
  | s, [] => s.2
  | s, d :: l => flD (s.1 + d.1, max s.2 (s.1 + d.1) + d.2) l
def dOkAll (l : List Dsh) : Prop := ∀ d ∈ l, 0 ≤ d.1 ∧ 0 ≤ d.2
theorem sum_nonneg2 : ∀ {l : List Dsh}, dOkAll l → 0 ≤ (l.map (·.2)).sum ∧ 0 ≤ (l.map (·.1)).sum
  | [], _ => by simp
  | d :: l, h => by
    have h1 := h d (by simp)
    have h2 := sum_nonneg2 (l := l) (fun x hx => h x (by simp [hx]))
    simp only [List.map_cons, List.sum_cons]; omega
theorem flD_gM : ∀ (l : List Dsh) (s : Int × Int), dOkAll l → s.1 ≤ s.2 → flD s l = max (s.2 + (l.map (·.2)).sum) (s.1 + gM l)
  | [], s, _, h => by simp [flD, gM]; omega
  | d :: l, s, hd, h => by
    have h1 := hd d (by simp)
    have hd2 : dOkAll l := fun x hx => hd x (by simp [hx])
    have := flD_gM l (s.1 + d.1, max s.2 (s.1 + d.1) + d.2) hd2 (by simp only; omega)
    rw [flD, this, gM]
    simp only [List.map_cons, List.sum_cons]; omega
theorem gM_bounds : ∀ {l : List Dsh}, dOkAll l → (l.map (·.1)).sum ≤ gM l ∧ (l.map (·.2)).sum ≤ gM l ∧ gM l ≤ (l.map (·.1)).sum + (l.map (·.2)).sum ∧ 0 ≤ gM l ∧ ∀ d ∈ l, d.1 + d.2 ≤ gM l
  | [], _ => by simp [gM]
  | d :: l, h => by
    have h1 := h d (by simp)
    have hd2 : dOkAll l := fun x hx => h x (by simp [hx])
    obtain ⟨i1, i2, i3, i4, i5⟩ := gM_bounds hd2
    obtain ⟨j1, j2⟩ := sum_nonneg2 hd2
    rw [gM]
    simp only [List.map_cons, List.sum_cons]
    refine ⟨by omega, by omega, by omega, by omega, fun x hx => ?_⟩
    rcases List.mem_cons.1 hx with e | e
    · subst e; omega
    · have := i5 x e; omega
theorem flD_zero {l : List Dsh} (h : dOkAll l) : flD (0, 0) l = gM l := by
  obtain ⟨i1, i2, i3, i4, i5⟩ := gM_bounds h
  rw [flD_gM l (0, 0) h (by simp)]; simp only; omega
theorem gM_snoc : ∀ (l : List Dsh) (d : Dsh), dOkAll (l ++ [d]) → gM (l ++ [d]) = max ((l.map (·.1)).sum + d.1 + d.2) (gM l + d.2)
  | [], d, h => by
    have := h d (by simp)
    simp [gM]; omega
  | x :: l, d, h => by
    have hd2 : dOkAll (l ++ [d]) := fun y hy => h y (by rw [List.cons_append]; exact List.mem_cons_of_mem _ hy)
    have ih := gM_snoc l d hd2
    rw [List.cons_append, gM, gM, ih]
    simp only [List.map_cons, List.sum_cons, List.map_append, List.map_nil, List.sum_nil, List.sum_append]; omega
def swD (d : Dsh) : Dsh := (d.2, d.1)
theorem gM_turn : ∀ {l : List Dsh}, dOkAll l → gM (l.map swD).reverse = gM l
  | [], _ => rfl
  | d :: l, h => by
    have hd2 : dOkAll l := fun x hx => h x (by simp [hx])
    have ih := gM_turn hd2
    have hr : ∀ z ∈ ((d :: l).map swD).reverse, 0 ≤ z.1 ∧ 0 ≤ z.2 := by
      intro x hx
      rw [List.mem_reverse, List.mem_map] at hx
      obtain ⟨y, hy, rfl⟩ := hx
      have := h y hy
      exact ⟨this.2, this.1⟩
    have e : ((d :: l).map swD).reverse = (l.map swD).reverse ++ [swD d] := by simp
    rw [e] at hr ⊢
    rw [gM_snoc _ _ hr, ih, gM]
    have e1 : ((l.map swD).reverse.map (·.1)).sum = (l.map (·.2)).sum := by
      rw [List.map_reverse, List.sum_reverse, List.map_map]; rfl
    rw [e1]
    simp only [swD]; omega
theorem flC_flD (ds : List Dsh) : ∀ (l : List Int) (s : Int × Int), flC ds s l = flD s (l.map fun x => (dP ds x.toNat, dC ds x.toNat))
  | [], s => rfl
  | x :: l, s => by rw [flC, List.map_cons, flD, flC_flD ds l]
def dsO (ds : List Dsh) (order : List Int) : List Dsh := order.map fun x => (dP ds x.toNat, dC ds x.toNat)
theorem dsO_ok {ds : List Dsh} (h : dishB ds = true) (order : List Int) : dOkAll (dsO ds order) := by
  intro d hd
  rw [dsO, List.mem_map] at hd
  obtain ⟨x, _, rfl⟩ := hd
  have := dP_bound h x.toNat
  exact ⟨this.1, this.2.2.1⟩
theorem endB_gM {ds : List Dsh} {order : List Int} (h : dishB ds = true) (h2 : orderB order ds.length = true) : endB ds order = gM (dsO ds order) := by
  rw [endB_eq h h2, flC_flD]; exact flD_zero (dsO_ok h order)
theorem dsO_sum1 {ds : List Dsh} {order : List Int} (h2 : orderB order ds.length = true) : ((dsO ds order).map (·.1)).sum = (ds.map (·.1)).sum ∧ ((dsO ds order).map (·.2)).sum = (ds.map (·.2)).sum := by
  have hl : order.length = ds.length := ord_len h2
  have hn : (idx ds.length).Nodup := (idx_sorted ds.length).imp (fun {a b} h e => by omega)
  have hp := perm_of_mem order _ (orderB_iff.1 h2).2.1 hn (fun z => by rw [order_mem h2, idx_mem])
  have e1 : (idx ds.length).map (fun x => dP ds x.toNat) = ds.map (·.1) := by
    apply List.ext_getElem (by simp [idx])
    intro i a b
    simp at b
    simp [idx, dP, b]
  have e2 : (idx ds.length).map (fun x => dC ds x.toNat) = ds.map (·.2) := by
    apply List.ext_getElem (by simp [idx])
    intro i a b
    simp at b
    simp [idx, dC, b]
  constructor
  · rw [← e1, dsO, List.map_map]; exact perm_sum hp _
  · rw [← e2, dsO, List.map_map]; exact perm_sum hp _
theorem dsO_mem {ds : List Dsh} {order : List Int} (h2 : orderB order ds.length = true) (k : Nat) (hk : k < ds.length) : (dP ds k, dC ds k) ∈ dsO ds order := by
  rw [dsO, List.mem_map]
  exact ⟨(k : Int), (order_mem h2 k).2 (by omega), rfl⟩
theorem dish_turn {ds : List Dsh} (h : dishB ds = true) : dishB (ds.map swD) = true := by
  simp only [dishB, Bool.and_eq_true, List.all_eq_true, decide_eq_true_eq, List.length_map] at *
  refine ⟨fun d hd => ?_, h.2⟩
  rw [List.mem_map] at hd
  obtain ⟨x, hx, rfl⟩ := hd
  have := h.1 x hx
  simp only [dOk, swD, Bool.and_eq_true] at *
  exact ⟨this.2, this.1⟩
theorem dsO_turn (ds : List Dsh) (order : List Int) : dsO (ds.map swD) order.reverse = ((dsO ds order).map swD).reverse := by
  rw [dsO, dsO, List.map_reverse, List.map_map]
  congr 1
  apply List.map_congr_left
  intro x _
  by_cases hx : x.toNat < ds.length
  · simp [dP, dC, swD, hx]
  · simp [dP, dC, swD, hx]
/-- The other direction ends at the same time. -/
theorem end_turn {ds : List Dsh} {order : List Int} (h : dishB ds = true) (h2 : orderB order ds.length = true) : endB (ds.map swD) order.reverse = endB ds order := by
  rw [endB_gM h h2, endB_gM (dish_turn h) (by rw [List.length_map]; exact order_reverse h2), dsO_turn, gM_turn (dsO_ok h order)]
theorem end_bounds {ds : List Dsh} {order : List Int} (h : dishB ds = true) (h2 : orderB order ds.length = true) :
    (ds.map (·.1)).sum ≤ endB ds order ∧ (ds.map (·.2)).sum ≤ endB ds order ∧ endB ds order ≤ (ds.map (·.1)).sum + (ds.map (·.2)).sum ∧ 0 ≤ endB ds order ∧ ∀ k, k < ds.length → dP ds k + dC ds k ≤ endB ds order := by
  obtain ⟨i1, i2, i3, i4, i5⟩ := gM_bounds (dsO_ok h order)
  obtain ⟨j1, j2⟩ := dsO_sum1 h2
  rw [endB_gM h h2, ← j1, ← j2]
  exact ⟨i1, i2, i3, i4, fun k hk => i5 _ (dsO_mem h2 k hk)⟩
end Go.Proofs.YtnehedcelfpegaaDoor
