/- Slices of slices of orders: read, and made by the call itself. -/
import Derived.Test.YthbledeghanffaaDoorOrds
set_option linter.unusedVariables false
set_option linter.unusedSimpArgs false
namespace Go.Proofs.YthbledeghanffaaDoor
open Go.ChangeShapes Go.WideShapes Go.ChangeAt Go.RowKit

def SK (w : World) (B : Nat) (A : Option Addr) (ks : List (List Ord)) : Prop :=
  0 < ks.length → ∃ b off, A = some ⟨b, off, none⟩ ∧ b < B ∧ ∀ j (h : j < ks.length), ∃ Aj cj, w.cell? ⟨b, off + j, none⟩ = some (.slice Aj ks[j].length cj) ∧ SO w B Aj ks[j] ∧ ks[j].length ≤ cj ∧ cj ≤ maxLen
section
variable {w w' : World} {B B' : Nat} {A : Option Addr} {ks : List (List Ord)}
theorem SK.nil (w : World) (B : Nat) (A : Option Addr) : SK w B A [] := fun h => absurd h (by simp)
theorem SK.below (h : SK w B A ks) (hb : Below B w w') : SK w' B A ks := by
  intro hp
  obtain ⟨b, off, e, hlt, hc⟩ := h hp
  refine ⟨b, off, e, hlt, fun j hj => ?_⟩
  obtain ⟨Aj, cj, h1, h2, h3⟩ := hc j hj
  exact ⟨Aj, cj, by rw [hb.cell (p := ⟨b, off + j, none⟩) hlt]; exact h1, h2.below hb, h3⟩
theorem SK.more (h : SK w B A ks) (hB : B ≤ B') : SK w B' A ks := by
  intro hp
  obtain ⟨b, off, e, hlt, hc⟩ := h hp
  refine ⟨b, off, e, by omega, fun j hj => ?_⟩
  obtain ⟨Aj, cj, h1, h2, h3⟩ := hc j hj
  exact ⟨Aj, cj, h1, h2.more hB, h3⟩
theorem SK.tight (h : SK w B A ks) : SK w w.heap.size A ks := by
  intro hp
  obtain ⟨b, off, e, hlt, hc⟩ := h hp
  refine ⟨b, off, e, ?_, fun j hj => ?_⟩
  · obtain ⟨Aj, cj, h1, _⟩ := hc 0 hp
    exact World.block_lt_of_cell? w _ h1
  · obtain ⟨Aj, cj, h1, h2, h3⟩ := hc j hj
    exact ⟨Aj, cj, h1, h2.tight, h3⟩
end

abbrev Row := Nat × List Value
def rowsOf (ks : List (List Ord)) : List Row := ks.map fun os => (os.length, ords os)
theorem rowsOf_length (ks : List (List Ord)) : (rowsOf ks).length = ks.length := by simp [rowsOf]
def apartV (u v : Value) : Prop := ∀ g, u.ownBlock = some g → v.ownBlock = some g → False
/-- The slices vs, owned from block lo on, each apart from the others, hold the rows. -/
structure Inn (w : World) (lo : Nat) (vs : List Value) (rows : List Row) : Prop where
  len : vs.length = rows.length
  at_ : ∀ j (h : j < rows.length) (h' : j < vs.length), ∃ Aj cj, vs[j] = .slice Aj rows[j].1 cj ∧ w.ownsRow lo 30 2 (.slice Aj rows[j].1 cj) rows[j].1 rows[j].2
  apart : ∀ i j (hi : i < vs.length) (hj : j < vs.length), i < j → apartV vs[i] vs[j]
theorem own_keep {w w' : World} {base n size : Nat} {e : TypeId} {v : Value} {cs : List Value} (h : w.ownsRow base e size v n cs) (hk : ∀ g, v.ownBlock = some g → w'.heap[g]? = w.heap[g]?) : w'.ownsRow base e size v n cs := by
  refine ⟨h.1, ?_⟩
  rcases h.2 with h0 | ⟨g, cap, cur, rfl, hb, hg, r⟩
  · exact .inl h0
  · exact .inr ⟨g, cap, cur, rfl, hb, by rw [hk g rfl]; exact hg, r⟩
theorem own_type {w : World} {base n size g : Nat} {e : TypeId} {v : Value} {cs : List Value} (h : w.ownsRow base e size v n cs) (hg : v.ownBlock = some g) : ∃ c, w.heap[g]? = some (.cells c e (0, 0)) := by
  rcases h.2 with ⟨rfl, _⟩ | ⟨g', cap, cur, rfl, hb, hh, r⟩
  · simp [Value.ownBlock] at hg
  · simp [Value.ownBlock] at hg
    subst hg
    exact ⟨cur, hh⟩
section
variable {w w' : World} {lo : Nat} {vs : List Value} {rows : List Row}
theorem Inn.nil (w : World) (lo : Nat) : Inn w lo [] [] := ⟨rfl, fun j h => absurd h (by simp), fun i j hi => absurd hi (by simp)⟩
/-- What keeps every block of orders keeps the rows. -/
theorem Inn.keep (h : Inn w lo vs rows) (hk : ∀ (g : Nat) (c : Array Value), w.heap[g]? = some (Obj.cells c 30 (0, 0)) → w'.heap[g]? = w.heap[g]?) : Inn w' lo vs rows := by
  refine ⟨h.len, fun j hj hj' => ?_, h.apart⟩
  obtain ⟨Aj, cj, e, ho⟩ := h.at_ j hj hj'
  refine ⟨Aj, cj, e, own_keep ho fun g hg => ?_⟩
  obtain ⟨c, hc⟩ := own_type ho hg
  exact hk g c hc
theorem Inn.below (h : Inn w lo vs rows) (hb : Below w.heap.size w w') : Inn w' lo vs rows :=
  h.keep fun g c hg => hb.block g (lt_of_block hg)
theorem Inn.mono {lo' : Nat} (h : Inn w lo vs rows) (hl : lo' ≤ lo) : Inn w lo' vs rows :=
  ⟨h.len, fun j hj hj' => by obtain ⟨Aj, cj, e, ho⟩ := h.at_ j hj hj'; exact ⟨Aj, cj, e, own_mono ho hl⟩, h.apart⟩
theorem Inn.push {v : Value} {n : Nat} {cs : List Value} (h : Inn w lo vs rows) (hb : Below w.heap.size w w') (ho : w'.ownsRow w.heap.size 30 2 v n cs) (hl : lo ≤ w.heap.size) : Inn w' lo (vs ++ [v]) (rows ++ [(n, cs)]) := by
  have h2 := h.below hb
  obtain ⟨Av, cv, rfl, -⟩ := own_form ho
  refine ⟨by simp [h.len], fun j hj hj' => ?_, fun i j hi hj hij => ?_⟩
  · by_cases hlt : j < rows.length
    · have hlt' : j < vs.length := by rw [h.len]; exact hlt
      obtain ⟨Aj, cj, e, ho'⟩ := h2.at_ j hlt hlt'
      refine ⟨Aj, cj, ?_, ?_⟩
      · rw [List.getElem_append_left hlt', List.getElem_append_left hlt]; exact e
      · rw [List.getElem_append_left hlt]; exact ho'
    · have hje : j = rows.length := by simp at hj; omega
      subst hje
      refine ⟨Av, cv, ?_, ?_⟩
      · rw [List.getElem_append_right (by rw [h.len]; exact Nat.le_refl _), List.getElem_append_right (Nat.le_refl _)]; simp [h.len]
      · rw [List.getElem_append_right (Nat.le_refl _)]; simp; exact own_mono ho hl
  · by_cases hlt : j < vs.length
    · rw [List.getElem_append_left (by omega), List.getElem_append_left hlt]
      exact h.apart i j (by omega) hlt hij
    · have hje : j = vs.length := by simp at hj; omega
      subst hje
      rw [List.getElem_append_left (by omega), List.getElem_append_right (Nat.le_refl _)]
      simp
      intro g hg hg'
      obtain ⟨Ai, ci, e, ho'⟩ := h.at_ i (by rw [← h.len]; omega) (by omega)
      rw [e] at hg
      have h1 := (World.ownsRow.lt ho' g hg).2
      have h3 := (World.ownsRow.lt ho g hg').1
      omega
end
/-- A slice of slices that the call made. -/
def OK (w : World) (lo : Nat) (v : Value) (rows : List Row) : Prop := ∃ vs, w.ownsRow lo 25 1 v rows.length vs ∧ Inn w lo vs rows
theorem types_differ : (25 : Nat) ≠ 30 := by decide
section
variable {w w' : World} {lo lo' : Nat} {v : Value} {rows : List Row}
theorem OK.below (h : OK w lo v rows) (hb : Below w.heap.size w w') : OK w' lo v rows := by
  obtain ⟨vs, h1, h2⟩ := h
  exact ⟨vs, own_below h1 hb, h2.below hb⟩
theorem OK.mono (h : OK w lo v rows) (hl : lo' ≤ lo) : OK w lo' v rows := by
  obtain ⟨vs, h1, h2⟩ := h
  exact ⟨vs, own_mono h1 hl, h2.mono hl⟩
theorem OK.nil (w : World) (lo : Nat) : OK w lo (.slice none 0 0) [] := ⟨[], World.ownsRow_nil w lo _ 1, Inn.nil w lo⟩
theorem OK.reads {ks : List (List Ord)} {A : Option Addr} {n c : Nat} (h : OK w lo (.slice A n c) (rowsOf ks)) : SK w w.heap.size A ks := by
  obtain ⟨vs, h1, h2⟩ := h
  obtain ⟨A', c', e, hr, _⟩ := own_form h1
  injection e with e1 e2 e3
  subst e1
  have hl : vs.length = ks.length := by rw [h2.len, rowsOf_length]
  intro hp
  obtain ⟨b, off, rfl, hb, hc⟩ := hr (by omega)
  refine ⟨b, off, rfl, hb, fun j hj => ?_⟩
  have hj' : j < vs.length := by omega
  have hj2 : j < (rowsOf ks).length := by rw [rowsOf_length]; exact hj
  obtain ⟨Aj, cj, e, ho⟩ := h2.at_ j hj2 hj'
  have er : (rowsOf ks)[j] = (ks[j].length, ords ks[j]) := by simp [rowsOf]
  rw [er] at ho e
  have hf := own_form ho
  obtain ⟨A2, c2, e2, hr2, hle, hmx, -⟩ := hf
  injection e2 with e3 _ e4
  subst e3 e4
  exact ⟨Aj, cj, by rw [hc j hj', e], hr2, hle, hmx⟩
theorem OK.form {ks : List (List Ord)} (h : OK w lo v (rowsOf ks)) : ∃ A c, v = .slice A ks.length c ∧ ks.length ≤ c ∧ c ≤ maxLen := by
  obtain ⟨vs, h1, h2⟩ := h
  obtain ⟨A', c', e, hr, hle, hmx, _⟩ := own_form h1
  rw [rowsOf_length] at e hle
  exact ⟨A', c', e, hle, hmx⟩
end
def RetK (w : World) (ks : List (List Ord)) (e : Ending) (w' : World) : Prop := ∃ v, e = .returned v ∧ OK w' w.heap.size v (rowsOf ks) ∧ Below w.heap.size w w'
def total (ks : List (List Ord)) : Nat := (ks.map List.length).sum
theorem total_take_succ (ks : List (List Ord)) (k : Nat) (h : k < ks.length) : total (ks.take (k + 1)) = total (ks.take k) + ks[k].length := by
  simp only [total]; rw [List.take_succ_eq_append_getElem h, List.map_append, List.sum_append]; simp only [List.map_cons, List.map_nil, List.sum_cons, List.sum_nil, Nat.add_zero]
theorem total_take_le (ks : List (List Ord)) (k : Nat) : total (ks.take k) ≤ total ks := by
  have e : total ks = total (ks.take k) + total (ks.drop k) := by
    simp only [total]
    rw [← List.sum_append, ← List.map_append, List.take_append_drop]
  omega
theorem len_le_total (ks : List (List Ord)) (k : Nat) (h : k < ks.length) : ks[k].length ≤ total ks := by
  have h1 := total_take_succ ks k h
  have h2 := total_take_le ks (k + 1)
  omega
theorem rows_take_succ (ks : List (List Ord)) (k : Nat) (h : k < ks.length) : rowsOf (ks.take (k + 1)) = rowsOf (ks.take k) ++ [(ks[k].length, ords ks[k])] := by
  simp only [rowsOf]; rw [List.take_succ_eq_append_getElem h, List.map_append]; rfl

theorem sl_info : (Tryd.prog.info? 25).map (fun i => (i.zero, i.size, i.bytes)) = some (some (.slice none 0 0), 1, 24) := by kernel_rfl


end Go.Proofs.YthbledeghanffaaDoor
