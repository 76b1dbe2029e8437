/- Slices of tasks (a number and a slice of numbers each): read, and made by the call itself; the small functions over them. -/
import Derived.Test.YtgndokhehooplaaInts
import Derived.Test.YtgndokhehooplaaAt
import Derived.Test.YtgndokhehooplaaOpen
import Derived.StillTailTactics
set_option linter.unusedVariables false
set_option linter.unusedSimpArgs false
namespace Go.Proofs.Ytgndokhehooplaa
open Go.ChangeShapes Go.WideShapes Go.ChangeAt Go.RowKit

abbrev Tsk := Int × List Int
/-- The slice with address A reads, in w, as the tasks ts; all of it lies below block B. -/
def ST (w : World) (B : Nat) (A : Option Addr) (ts : List Tsk) : Prop :=
  0 < ts.length → ∃ b off, A = some ⟨b, off, none⟩ ∧ b < B ∧ ∀ j (h : j < ts.length), w.cell? ⟨b, off + j * 2, none⟩ = some (.int .i64 ts[j].1) ∧
    ∃ Aj cj, w.cell? ⟨b, off + j * 2 + 1, none⟩ = some (.slice Aj ts[j].2.length cj) ∧ IS w B Aj ts[j].2 ∧ ts[j].2.length ≤ cj ∧ cj ≤ maxLen
section
variable {w w' : World} {B B' : Nat} {A : Option Addr} {ts : List Tsk}
theorem ST.nil (w : World) (B : Nat) (A : Option Addr) : ST w B A [] := fun h => absurd h (by simp)
theorem ST.below (h : ST w B A ts) (hb : Below B w w') : ST w' B A ts := by
  intro hp
  obtain ⟨b, off, e, hlt, hc⟩ := h hp
  refine ⟨b, off, e, hlt, fun j hj => ?_⟩
  obtain ⟨h0, Aj, cj, h1, h2, h3⟩ := hc j hj
  exact ⟨by rw [hb.cell (p := ⟨b, off + j * 2, none⟩) hlt]; exact h0, Aj, cj, by rw [hb.cell (p := ⟨b, off + j * 2 + 1, none⟩) hlt]; exact h1, h2.below hb, h3⟩
theorem ST.more (h : ST w B A ts) (hB : B ≤ B') : ST w B' A ts := by
  intro hp
  obtain ⟨b, off, e, hlt, hc⟩ := h hp
  refine ⟨b, off, e, by omega, fun j hj => ?_⟩
  obtain ⟨h0, Aj, cj, h1, h2, h3⟩ := hc j hj
  exact ⟨h0, Aj, cj, h1, h2.more hB, h3⟩
theorem ST.tight (h : ST w B A ts) : ST w w.heap.size A ts := by
  intro hp
  obtain ⟨b, off, e, hlt, hc⟩ := h hp
  refine ⟨b, off, e, ?_, fun j hj => ?_⟩
  · obtain ⟨h0, _⟩ := hc 0 hp
    exact World.block_lt_of_cell? w _ h0
  · obtain ⟨h0, Aj, cj, h1, h2, h3⟩ := hc j hj
    exact ⟨h0, Aj, cj, h1, h2.tight, h3⟩
end

abbrev RowI := Nat × List Value
def apartI (u v : Value) : Prop := ∀ g, u.ownBlock = some g → v.ownBlock = some g → False
theorem ownI_keep {w w' : World} {base n size : Nat} {e : TypeId} {v : Value} {cs : List Value} (h : w.ownsRow base e size v n cs) (hk : ∀ g, v.ownBlock = some g → w'.heap[g]? = w.heap[g]?) : w'.ownsRow base e size v n cs := by
  refine ⟨h.1, ?_⟩
  rcases h.2 with h0 | ⟨g, cap, cur, rfl, hb, hg, r⟩
  · exact .inl h0
  · exact .inr ⟨g, cap, cur, rfl, hb, by rw [hk g rfl]; exact hg, r⟩
theorem ownI_type {w : World} {base n size g : Nat} {e : TypeId} {v : Value} {cs : List Value} (h : w.ownsRow base e size v n cs) (hg : v.ownBlock = some g) : ∃ c, w.heap[g]? = some (.cells c e (0, 0)) := by
  rcases h.2 with ⟨rfl, _⟩ | ⟨g', cap, cur, rfl, hb, hh, r⟩
  · simp [Value.ownBlock] at hg
  · simp [Value.ownBlock] at hg
    subst hg
    exact ⟨cur, hh⟩
/-- The slices vs of numbers, owned from block lo on, each apart from the others, hold the rows. -/
structure InnI (w : World) (lo : Nat) (vs : List Value) (rows : List RowI) : Prop where
  len : vs.length = rows.length
  at_ : ∀ j (h : j < rows.length) (h' : j < vs.length), ∃ Aj cj, vs[j] = .slice Aj rows[j].1 cj ∧ w.ownsRow lo 3 1 (.slice Aj rows[j].1 cj) rows[j].1 rows[j].2
  apart : ∀ i j (hi : i < vs.length) (hj : j < vs.length), i < j → apartI vs[i] vs[j]
section
variable {w w' : World} {lo : Nat} {vs : List Value} {rows : List RowI}
theorem InnI.nil (w : World) (lo : Nat) : InnI w lo [] [] := ⟨rfl, fun j h => absurd h (by simp), fun i j hi => absurd hi (by simp)⟩
theorem InnI.keep (h : InnI w lo vs rows) (hk : ∀ (g : Nat) (c : Array Value), w.heap[g]? = some (Obj.cells c 3 (0, 0)) → w'.heap[g]? = w.heap[g]?) : InnI w' lo vs rows := by
  refine ⟨h.len, fun j hj hj' => ?_, h.apart⟩
  obtain ⟨Aj, cj, e, ho⟩ := h.at_ j hj hj'
  refine ⟨Aj, cj, e, ownI_keep ho fun g hg => ?_⟩
  obtain ⟨c, hc⟩ := ownI_type ho hg
  exact hk g c hc
theorem InnI.below (h : InnI w lo vs rows) (hb : Below w.heap.size w w') : InnI w' lo vs rows :=
  h.keep fun g c hg => hb.block g (lt_of_block hg)
theorem InnI.push {v : Value} {n : Nat} {cs : List Value} (h : InnI w lo vs rows) (hb : Below w.heap.size w w') (ho : w'.ownsRow w.heap.size 3 1 v n cs) (hl : lo ≤ w.heap.size) : InnI w' lo (vs ++ [v]) (rows ++ [(n, cs)]) := by
  have h2 := h.below hb
  obtain ⟨Av, cv, rfl, -⟩ := own_form ho
  refine ⟨by simp [h.len], fun j hj hj' => ?_, fun i j hi hj hij => ?_⟩
  · by_cases hlt : j < rows.length
    · have hlt' : j < vs.length := by rw [h.len]; exact hlt
      obtain ⟨Aj, cj, e, ho'⟩ := h2.at_ j hlt hlt'
      refine ⟨Aj, cj, ?_, ?_⟩
      · rw [List.getElem_append_left hlt', List.getElem_append_left hlt]; exact e
      · rw [List.getElem_append_left hlt]; exact ho'
    · have hje : j = rows.length := by simp at hj; omega
      subst hje
      refine ⟨Av, cv, ?_, ?_⟩
      · rw [List.getElem_append_right (by rw [h.len]; exact Nat.le_refl _), List.getElem_append_right (Nat.le_refl _)]; simp [h.len]
      · rw [List.getElem_append_right (Nat.le_refl _)]; simp; exact own_mono ho hl
  · by_cases hlt : j < vs.length
    · rw [List.getElem_append_left (by omega), List.getElem_append_left hlt]
      exact h.apart i j (by omega) hlt hij
    · have hje : j = vs.length := by simp at hj; omega
      subst hje
      rw [List.getElem_append_left (by omega), List.getElem_append_right (Nat.le_refl _)]
      simp
      intro g hg hg'
      obtain ⟨Ai, ci, e, ho'⟩ := h.at_ i (by rw [← h.len]; omega) (by omega)
      rw [e] at hg
      have h1 := (World.ownsRow.lt ho' g hg).2
      have h3 := (World.ownsRow.lt ho g hg').1
      omega
/-- One of the slices was written. -/
theorem InnI.written (h : InnI w lo vs rows) (k : Nat) (hk : k < vs.length) {n : Nat} {cs : List Value} (hg : w.grownBy w' vs[k].ownBlock) (ho : w'.ownsRow lo 3 1 vs[k] n cs) (hn : ∀ h2, (rows[k]'h2).1 = n) :
    InnI w' lo vs (rows.set k (n, cs)) := by
  refine ⟨by rw [List.length_set]; exact h.len, fun j hj hj' => ?_, h.apart⟩
  rw [List.length_set] at hj
  by_cases e : k = j
  · subst e
    obtain ⟨Aj, cj, e, _⟩ := h.at_ k hj hj'
    rw [e, hn hj] at ho
    refine ⟨Aj, cj, by rw [e, hn hj]; simp, by simpa using ho⟩
  · obtain ⟨Aj, cj, e1, ho1⟩ := h.at_ j hj hj'
    refine ⟨Aj, cj, by rw [e1]; simp [List.getElem_set, e], ?_⟩
    simp only [List.getElem_set, e, if_false]
    refine ownI_keep ho1 fun g hg1 => hg.block g (World.ownsRow.lt ho1 g hg1).2 ?_
    intro e2
    rw [← e1] at hg1
    rcases Nat.lt_or_gt_of_ne e with hlt | hlt
    · exact h.apart k j hk hj' hlt g e2.symm hg1
    · exact h.apart j k hj' hk hlt g hg1 e2.symm
end

def encP (p : Int × Value) : List Value := [.int .i64 p.1, p.2]
theorem encP_len : ∀ p : Int × Value, (encP p).length = 2 := fun _ => rfl
def pairs (ps : List (Int × Value)) : List Value := flat encP ps
theorem pairs_length (ps : List (Int × Value)) : (pairs ps).length = ps.length * 2 := flat_length encP_len ps
theorem pairs_get (ps : List (Int × Value)) (k : Nat) (hk : k < ps.length) : (pairs ps)[k * 2]? = some (.int .i64 ps[k].1) ∧ (pairs ps)[k * 2 + 1]? = some ps[k].2 := by
  have h1 := flat_get encP_len ps k 0 hk (by omega)
  have h2 := flat_get encP_len ps k 1 hk (by omega)
  exact ⟨h1, h2⟩
theorem pairs_cons (p : Int × Value) (ps : List (Int × Value)) : pairs (p :: ps) = .int .i64 p.1 :: p.2 :: pairs ps := rfl
theorem pairs_set1 (a : Int) : ∀ (ps : List (Int × Value)) (k : Nat) (hk : k < ps.length), (pairs ps).set (k * 2) (.int .i64 a) = pairs (ps.set k (a, ps[k].2))
  | [], k, h => absurd h (by simp)
  | p :: ps, 0, h => by simp [pairs_cons]
  | p :: ps, k + 1, h => by
    have := pairs_set1 a ps k (by simpa using h)
    rw [pairs_cons, show (k + 1) * 2 = k * 2 + 1 + 1 by omega, List.set_cons_succ, List.set_cons_succ, this, List.set_cons_succ, pairs_cons]; rfl
theorem pairs_set2 (v : Value) : ∀ (ps : List (Int × Value)) (k : Nat) (hk : k < ps.length), (pairs ps).set (k * 2 + 1) v = pairs (ps.set k (ps[k].1, v))
  | [], k, h => absurd h (by simp)
  | p :: ps, 0, h => by simp [pairs_cons]
  | p :: ps, k + 1, h => by
    have := pairs_set2 v ps k (by simpa using h)
    rw [pairs_cons, show (k + 1) * 2 + 1 = k * 2 + 1 + 1 + 1 by omega, List.set_cons_succ, List.set_cons_succ, this, List.set_cons_succ, pairs_cons]; rfl
theorem toList_madeCells_pair (a : Int) (z : Value) (n : Nat) : (madeCells #[.int .i64 a, z] (n * 2)).toList = pairs (List.replicate n (a, z)) := by
  apply List.ext_getElem?
  intro j
  by_cases hj : j < n * 2
  · have h3 : (madeCells #[.int .i64 a, z] (n * 2)).toList[j]? = some ((#[.int .i64 a, z] : Array Value)[j % 2]!) := by simp [madeCells, hj]
    rw [h3]
    have hk : j / 2 < (List.replicate n (a, z)).length := by simp; omega
    obtain ⟨h1, h2⟩ := pairs_get (List.replicate n (a, z)) (j / 2) hk
    rcases Nat.mod_two_eq_zero_or_one j with e | e
    · rw [show j / 2 * 2 = j by omega] at h1
      rw [h1, e]; simp
    · rw [show j / 2 * 2 + 1 = j by omega] at h2
      rw [h2, e]; simp
  · have h4 : (pairs (List.replicate n (a, z))).length ≤ j := by rw [pairs_length]; simp; omega
    rw [List.getElem?_eq_none h4]
    simp [madeCells, hj]
theorem blk_madeP (w : World) (a : Int) (z : Value) (n : Nat) (t : TypeId) : Blk (w.alloc (.cells (madeCells #[.int .i64 a, z] (n * 2)) t)) w.heap.size t (pairs (List.replicate n (a, z))) := by
  have := Blk.new w t (madeCells #[.int .i64 a, z] (n * 2))
  rwa [toList_madeCells_pair] at this

def rowsT (ts : List Tsk) : List RowI := ts.map fun t => (t.2.length, ints t.2)
/-- A slice of tasks that the call made, all of it in blocks lo .. hi - 1: the outer cells hold ps, the inner slices the rows. -/
def OTR (w : World) (lo hi : Nat) (v : Value) (n : Nat) (ps : List (Int × Value)) (rows : List RowI) : Prop :=
  ps.length = n ∧ rows.length = n ∧ OwnR w lo hi 58 2 v n (pairs ps) ∧ InnI w lo (ps.map Prod.snd) rows ∧ ∀ j (h : j < (ps.map Prod.snd).length) g, (ps.map Prod.snd)[j].ownBlock = some g → g < hi
def OT (w : World) (lo hi : Nat) (v : Value) (ts : List Tsk) : Prop := ∃ ps, ps.map Prod.fst = ts.map Prod.fst ∧ OTR w lo hi v ts.length ps (rowsT ts)
section
variable {w w' : World} {lo hi lo' hi' : Nat} {v : Value} {ts : List Tsk}
theorem OT.below (h : OT w lo hi v ts) (b : Below w.heap.size w w') : OT w' lo hi v ts := by
  obtain ⟨ps, h1, h2, h3, h4, h5, h6⟩ := h
  exact ⟨ps, h1, h2, h3, h4.below b, h5.below b, h6⟩
theorem OT.chg (h : OT w lo hi v ts) (c : Chg lo' hi' w w') (ha : hi ≤ lo' ∨ hi' ≤ lo) : OT w' lo hi v ts := by
  obtain ⟨ps, h1, h2, h3, h4, h5, h6⟩ := h
  refine ⟨ps, h1, h2, h3, h4.chg c ha, ⟨h5.len, fun j hj hj' => ?_, h5.apart⟩, h6⟩
  obtain ⟨Aj, cj, e, ho⟩ := h5.at_ j hj hj'
  refine ⟨Aj, cj, e, ownI_keep ho fun g hg => ?_⟩
  have hlt := World.ownsRow.lt ho g hg
  have hhi := h6 j hj' g (by rw [e]; exact hg)
  exact c.block g hlt.2 (by omega)
theorem OT.form (h : OT w lo hi v ts) : ∃ A c, v = .slice A ts.length c ∧ ts.length ≤ c ∧ c ≤ maxLen := by
  obtain ⟨ps, h1, h2, h3, h4, h5, h6⟩ := h
  obtain ⟨A', c', e, hr, hle, hmx, _⟩ := own_form h4.1
  exact ⟨A', c', e, hle, hmx⟩
theorem OT.reads {A : Option Addr} {n c : Nat} (h : OT w lo hi (.slice A n c) ts) : ST w w.heap.size A ts := by
  obtain ⟨ps, h1, h2, h3, h4, h5, h6⟩ := h
  obtain ⟨A', c', e, hr, _⟩ := own_form h4.1
  injection e with e1 e2 e3
  subst e1
  intro hp
  obtain ⟨b, off, rfl, hb, hc⟩ := RV.flatAt (enc := encP) encP_len hr (by omega) (by omega)
  refine ⟨b, off, rfl, hb, fun j hj => ?_⟩
  have hj' : j < ps.length := by omega
  have e0 : ps[j].1 = ts[j].1 := by
    have : (ps.map Prod.fst)[j]? = (ts.map Prod.fst)[j]? := by rw [h1]
    simpa [hj, hj'] using this
  have hj2 : j < (rowsT ts).length := by omega
  obtain ⟨Aj, cj, e, ho⟩ := h5.at_ j hj2 (by simpa using hj')
  have er : (rowsT ts)[j] = (ts[j].2.length, ints ts[j].2) := by simp [rowsT]
  rw [er] at ho e
  have hf := own_form ho
  obtain ⟨A2, c2, e2, hr2, hle, hmx, -⟩ := hf
  injection e2 with e3 _ e4
  subst e3 e4
  have c1 := hc j hj' 0 _ rfl
  have c2 := hc j hj' 1 _ rfl
  refine ⟨by rw [← e0]; simpa using c1, Aj, cj, ?_, hr2, hle, hmx⟩
  have e' : ps[j].2 = .slice Aj ts[j].2.length cj := by simpa using e
  rw [← e', Nat.add_assoc]; exact c2
end
def RetTk (w : World) (ts : List Tsk) (e : Ending) (w' : World) : Prop := ∃ v, e = .returned v ∧ OT w' w.heap.size w'.heap.size v ts ∧ Below w.heap.size w w'
def totT (ts : List Tsk) : Nat := (ts.map fun t => t.2.length).sum
theorem totT_take_succ (ts : List Tsk) (k : Nat) (h : k < ts.length) : totT (ts.take (k + 1)) = totT (ts.take k) + ts[k].2.length := by
  simp only [totT]; rw [List.take_succ_eq_append_getElem h, List.map_append, List.sum_append]; simp only [List.map_cons, List.map_nil, List.sum_cons, List.sum_nil, Nat.add_zero]
theorem totT_take_le (ts : List Tsk) (k : Nat) : totT (ts.take k) ≤ totT ts := by
  have e : totT ts = totT (ts.take k) + totT (ts.drop k) := by
    simp only [totT]
    rw [← List.sum_append, ← List.map_append, List.take_append_drop]
  omega
theorem len_le_totT (ts : List Tsk) (k : Nat) (h : k < ts.length) : ts[k].2.length ≤ totT ts := by
  have h1 := totT_take_succ ts k h
  have h2 := totT_take_le ts (k + 1)
  omega
theorem rowsT_take_succ (ts : List Tsk) (k : Nat) (h : k < ts.length) : rowsT (ts.take (k + 1)) = rowsT (ts.take k) ++ [(ts[k].2.length, ints ts[k].2)] := by
  simp only [rowsT]; rw [List.take_succ_eq_append_getElem h, List.map_append]; rfl
theorem task_info : (Try.prog.info? 58).map (fun i => (i.zero, i.size, i.bytes)) = some (some (.agg #[.int .i64 0, .slice none 0 0]), 2, 32) := by kernel_rfl
theorem ST.lens {w : World} {B : Nat} {A : Option Addr} {ts : List Tsk} (h : ST w B A ts) : ∀ j (hj : j < ts.length), ts[j].2.length ≤ 9223372036854775807 := by
  intro j hj
  obtain ⟨b, off, _, _, hc⟩ := h (by omega)
  obtain ⟨_, Aj, cj, _, _, h1, h2⟩ := hc j hj
  simp [maxLen] at h2
  omega
theorem types_differT : (58 : Nat) ≠ 3 := by decide

theorem flat_ints : ∀ ys : List Int, flat (fun x : Int => [Value.int .i64 x]) ys = ints ys
  | [] => rfl
  | y :: t => by
    have := flat_ints t
    simp only [flat, ints, List.flatMap_cons, List.map_cons] at *
    rw [this]; rfl
/-! ### tasks that came in -/
def rawT (a : Int × Option Addr × Nat × Nat) : List Value := [.int .i64 a.1, .slice a.2.1 a.2.2.1 a.2.2.2]
def rawTQ (W : World) (a : Int × Option Addr × Nat × Nat) (t : Tsk) : Prop := a.1 = t.1 ∧ a.2.2.1 = t.2.length ∧ IS W W.heap.size a.2.1 t.2 ∧ t.2.length ≤ a.2.2.2 ∧ a.2.2.2 ≤ maxLen
theorem pick_allT {α β : Type} (R : α → β → Prop) : ∀ (xs : List α), (∀ a ∈ xs, ∃ b, R a b) → ∃ ys : List β, ys.length = xs.length ∧ ∀ j (h : j < xs.length) (h' : j < ys.length), R xs[j] ys[j]
  | [], _ => ⟨[], rfl, fun j h => absurd h (by simp)⟩
  | x :: t, h => by
    obtain ⟨b, hb⟩ := h x (by simp)
    obtain ⟨ys, hl, hy⟩ := pick_allT R t (fun a ha => h a (by simp [ha]))
    refine ⟨b :: ys, by simp [hl], fun j h1 h2 => ?_⟩
    cases j with
    | zero => exact hb
    | succ j => exact hy j (by simpa using h1) (by simpa using h2)
section
variable {H : Type} {enc : TypeId × Value → H} {P : Program} {W : World}
theorem open_IS0 {t e : TypeId} (ht : P.underlying t = some (.slice e)) (he : P.underlying e = some (.int .i64)) (hc : P.cellsOf e = 1) {fuel : Nat} {vs : List Value} {x : DataW H × List MemPlace} (hf : DataW.trod enc P W 0 (fun _ => true) true fuel t vs = some x) :
    ∃ A c xs, vs = [.slice A xs.length c] ∧ IS W W.heap.size A xs ∧ xs.length ≤ c ∧ c ≤ maxLen := by
  obtain ⟨A, c, ys, e, hr, h1, h2, _⟩ := open_RV0 (fun x : Int => [.int .i64 x]) 1 (fun _ => rfl) (by omega) (fun _ => True) ht hc (fun n cs y hy => by
    obtain ⟨a, e0, _, _⟩ := DataW.trod_int he hy
    exact ⟨a, trivial, e0⟩) hf
  refine ⟨A, c, ys, e, ?_, h1, h2⟩
  rw [flat_ints] at hr
  exact hr
theorem open_ST {t e i : TypeId} {n0 n1 : Field} (ht : P.underlying t = some (.slice e)) (he : P.underlying e = some (.struct #[n0, n1])) (h0 : P.underlying n0.type = some (.int .i64)) (h1 : P.underlying n1.type = some (.slice i)) (hi : P.underlying i = some (.int .i64))
    (o0 : n0.offset = 0) (o1 : n1.offset = 1) (c0 : P.cellsOf n0.type = 1) (c1 : P.cellsOf n1.type = 1) (ci : P.cellsOf i = 1) (hC : P.cellsOf e = 2) {r : Reach} {b0 : Nat} {v : Value} {d : DataW H} {p : List MemPlace}
    (hv : Value.okWide P W r b0 t v) (h : DataW.Trod enc P W 0 (fun _ => true) true t v d p) :
    ∃ A c ts, v = .slice A ts.length c ∧ ST W W.heap.size A ts ∧ ts.length ≤ c ∧ c ≤ maxLen := by
  obtain ⟨A, c, raws, rfl, hr, hle, hmx, hq⟩ := open_RV rawT 2 (fun _ => rfl) (by omega) (fun a => ∃ t, rawTQ W a t) ht hC
    (fun n cs x hx => by
      obtain ⟨y0, y1, m, _, hl, g0, g1⟩ := trod_struct2 he hx
      obtain ⟨a, e0, _, _⟩ := DataW.trod_int h0 g0
      obtain ⟨Aj, cj, xs, e1, hso, hlj, hmj⟩ := open_IS0 h1 hi ci g1
      rw [hC] at hl
      match cs, hl with
      | [u, v], _ =>
        simp [o0, c0] at e0
        simp [o1, c1] at e1
        exact ⟨(a, Aj, xs.length, cj), ⟨(a, xs), rfl, rfl, hso, hlj, hmj⟩, by rw [e0, e1]; rfl⟩) hv h
  obtain ⟨ts, hl, hk⟩ := pick_allT (rawTQ W) raws hq
  refine ⟨A, c, ts, by rw [hl], fun hp => ?_, by omega, hmx⟩
  obtain ⟨b, off, e, hb, hc⟩ := RV.flatAt (enc := rawT) (s := 2) (fun _ => rfl) hr (by omega) (by omega)
  refine ⟨b, off, e, hb, fun j hj => ?_⟩
  obtain ⟨q0, q1, q2, q3, q4⟩ := hk j (by omega) hj
  have k0 := hc j (by omega) 0 _ rfl
  have k1 := hc j (by omega) 1 _ rfl
  rw [q0, Nat.add_zero] at k0
  rw [q1, ← Nat.add_assoc] at k1
  exact ⟨k0, _, _, k1, q2, q3, q4⟩
end
end Go.Proofs.Ytgndokhehooplaa
