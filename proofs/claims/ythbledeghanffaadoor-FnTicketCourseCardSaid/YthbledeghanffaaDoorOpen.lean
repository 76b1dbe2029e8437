/- Arguments opened: a slice of numbers that came in reads as a list of numbers. -/
import Derived.Test.YthbledeghanffaaDoorMem
import Derived.ProofKit
import Derived.OpenShut
import Derived.ChangeOld
import Derived.Deep.Slices
set_option linter.unusedVariables false
set_option linter.unusedSimpArgs false
namespace Go.Proofs.YthbledeghanffaaDoor
open Go Go.ChangeShapes Go.WideShapes Go.ChangeAt Go.RowKit

section
variable {H : Type} {enc : TypeId × Value → H} {P : Program} {W : World}
theorem open_IS {t e : TypeId} (ht : P.underlying t = some (.slice e)) (he : P.underlying e = some (.int .i64)) (hc : P.cellsOf e = 1) {r : Reach} {b0 : Nat} {v : Value} {d : DataW H} {p : List MemPlace}
    (hv : Value.okWide P W r b0 t v) (h : DataW.Trod enc P W 0 (fun _ => true) true t v d p) :
    ∃ A c xs, v = .slice A xs.length c ∧ IS W W.heap.size A xs ∧ xs.length ≤ c ∧ c ≤ maxLen := by
  obtain ⟨a, len, cap, rfl⟩ := okWide_slice ht hv
  obtain ⟨fuel, hf⟩ := h
  rcases open_ints ht he hc hf with ⟨hcs, _⟩ | ⟨x, l, c, zs, hcs, _, hl, hm, hz, _, hcell, hwz⟩
  · simp [Value.cells] at hcs
    obtain ⟨rfl, rfl, rfl⟩ := hcs
    exact ⟨none, 0, [], rfl, IS.nil _ _ _, by simp, by simp [maxLen]⟩
  · simp [Value.cells] at hcs
    obtain ⟨rfl, rfl, rfl⟩ := hcs
    have hz' : zs.length = cap := by simpa using hz
    have hlen : (zs.take len).length = len := by rw [List.length_take]; omega
    refine ⟨some x, cap, zs.take len, by rw [hlen], IS.tight (B := x.block + 1) (IS.mk fun hp => ?_), by rw [hlen]; exact hl, hm⟩
    obtain ⟨b, off, rfl, hcc⟩ := ints_at hcell (by omega)
    refine ⟨b, off, rfl, Nat.lt_succ_self b, fun j hj => ?_⟩
    rw [hcc j (by omega), List.getElem_take]
    simp [List.getD_eq_getElem?_getD, show j < zs.length by omega]

/-- A slice that was read, of elements of s cells each, where an element's reading says what its cells are. -/
theorem open_RV0 {α : Type} (en : α → List Value) (s : Nat) (hs : ∀ a, (en a).length = s) (h0 : 0 < s) (Q : α → Prop) {t e : TypeId} (ht : P.underlying t = some (.slice e)) (hC : P.cellsOf e = s)
    (E : ∀ n cs x, DataW.trod enc P W 0 (fun _ => true) true n e cs = some x → ∃ a, Q a ∧ cs = en a) {fuel : Nat} {vs : List Value} {x : DataW H × List MemPlace} (hf : DataW.trod enc P W 0 (fun _ => true) true fuel t vs = some x) :
    ∃ A c xs, vs = [.slice A xs.length c] ∧ RV W W.heap.size A (flat en xs) ∧ xs.length ≤ c ∧ c ≤ maxLen ∧ ∀ a ∈ xs, Q a := by
  rcases Go.Deep.open_slice ht hf with ⟨hcs, _⟩ | ⟨x, l, c, m, n, D, Pl, hcs, _, hl, hm, hmm, _, hi⟩
  · exact ⟨none, 0, [], hcs, RV.nil _ _ _, by simp, by simp [maxLen], by simp⟩
  · have hm' : m = c := by simpa using hmm
    have hx : ∀ i (_ : i < l), ∃ a, Q a ∧ ∀ j u, (en a)[j]? = some u → W.cell? ((x.add (i * s)).add j) = some u := by
      intro i hlt
      obtain ⟨cs', hc, hd⟩ := hi i (by omega)
      obtain ⟨a, hq, rfl⟩ := E _ _ _ hd
      rw [hC] at hc
      obtain ⟨_, _, hat⟩ := World.cells?_some hc
      refine ⟨a, hq, fun j u hu => ?_⟩
      have hj : j < s := by have := (List.getElem?_eq_some_iff.1 hu).1; rwa [hs] at this
      rw [hat j hj, hu]
    have hlen : (List.ofFn fun i : Fin l => (hx i.1 i.2).choose).length = l := by simp
    refine ⟨some x, c, List.ofFn fun i : Fin l => (hx i.1 i.2).choose, by rw [hlen]; exact hcs, RV.of_flat hs h0 _ fun hp => ?_, by rw [hlen]; exact hl, hm, ?_⟩
    · rw [hlen] at hp
      obtain ⟨hq, hcell⟩ := (hx 0 hp).choose_spec
      have hne : ∃ u, (en (hx 0 hp).choose)[0]? = some u := ⟨_, List.getElem?_eq_getElem (by rw [hs]; exact h0)⟩
      obtain ⟨u, hu⟩ := hne
      have hc0 := hcell 0 u hu
      obtain ⟨b, off, spot⟩ := x
      have hspot : spot = none := by simpa [Addr.add] using World.cell?_spot hc0
      subst hspot
      have hadd : ∀ i j, ((⟨b, off, none⟩ : Addr).add i).add j = ⟨b, off + (i + j), none⟩ := by
        intro i j
        unfold Addr.add
        by_cases hi : i = 0 <;> by_cases hj : j = 0 <;> simp [hi, hj, Nat.add_assoc]
      refine ⟨b, off, rfl, ?_, fun k hk i u hu => ?_⟩
      · have := World.block_lt_of_cell? W _ hc0
        rwa [hadd] at this
      · rw [List.getElem_ofFn] at hu
        have := (hx k (by simpa using hk)).choose_spec.2 i u hu
        rwa [hadd] at this
    · intro a ha
      rw [List.mem_ofFn] at ha
      obtain ⟨i, rfl⟩ := ha
      exact (hx i.1 i.2).choose_spec.1
theorem open_RV {α : Type} (en : α → List Value) (s : Nat) (hs : ∀ a, (en a).length = s) (h0 : 0 < s) (Q : α → Prop) {t e : TypeId} (ht : P.underlying t = some (.slice e)) (hC : P.cellsOf e = s)
    (E : ∀ n cs x, DataW.trod enc P W 0 (fun _ => true) true n e cs = some x → ∃ a, Q a ∧ cs = en a) {r : Reach} {b0 : Nat} {v : Value} {d : DataW H} {p : List MemPlace}
    (hv : Value.okWide P W r b0 t v) (h : DataW.Trod enc P W 0 (fun _ => true) true t v d p) :
    ∃ A c xs, v = .slice A xs.length c ∧ RV W W.heap.size A (flat en xs) ∧ xs.length ≤ c ∧ c ≤ maxLen ∧ ∀ a ∈ xs, Q a := by
  obtain ⟨a, len, cap, rfl⟩ := okWide_slice ht hv
  obtain ⟨fuel, hf⟩ := h
  obtain ⟨A, c, xs, e, r⟩ := open_RV0 en s hs h0 Q ht hC E hf
  simp [Value.cells] at e
  exact ⟨A, c, xs, by rw [e.1, e.2.1, e.2.2], r⟩
/-- A struct of two numbers. -/
theorem open_two {e : TypeId} {n0 n1 : Field} (he : P.underlying e = some (.struct #[n0, n1])) (h0 : P.underlying n0.type = some (.int .i64)) (h1 : P.underlying n1.type = some (.int .i64)) (o0 : n0.offset = 0) (o1 : n1.offset = 1)
    (c0 : P.cellsOf n0.type = 1) (c1 : P.cellsOf n1.type = 1) (hC : P.cellsOf e = 2) (n : Nat) (cs : List Value) (x : DataW H × List MemPlace) (h : DataW.trod enc P W 0 (fun _ => true) true n e cs = some x) :
    ∃ a : Int × Int, True ∧ cs = [.int .i64 a.1, .int .i64 a.2] := by
  obtain ⟨y0, y1, m, _, hl, g0, g1⟩ := trod_struct2 he h
  obtain ⟨a, e0, _, _⟩ := DataW.trod_int h0 g0
  obtain ⟨b, e1, _, _⟩ := DataW.trod_int h1 g1
  rw [hC] at hl
  match cs, hl with
  | [u, v], _ =>
    simp [o0, c0] at e0
    simp [o1, c1] at e1
    exact ⟨(a, b), trivial, by rw [e0, e1]⟩
/-- A struct of three numbers. -/
theorem open_three {e : TypeId} {n0 n1 n2 : Field} (he : P.underlying e = some (.struct #[n0, n1, n2])) (h0 : P.underlying n0.type = some (.int .i64)) (h1 : P.underlying n1.type = some (.int .i64)) (h2 : P.underlying n2.type = some (.int .i64))
    (o0 : n0.offset = 0) (o1 : n1.offset = 1) (o2 : n2.offset = 2) (c0 : P.cellsOf n0.type = 1) (c1 : P.cellsOf n1.type = 1) (c2 : P.cellsOf n2.type = 1) (hC : P.cellsOf e = 3) (n : Nat) (cs : List Value) (x : DataW H × List MemPlace)
    (h : DataW.trod enc P W 0 (fun _ => true) true n e cs = some x) : ∃ a : Int × Int × Int, True ∧ cs = [.int .i64 a.1, .int .i64 a.2.1, .int .i64 a.2.2] := by
  obtain ⟨xs, m, _, _, hl, hlen, hf⟩ := DataW.trod_struct he h
  match xs, hlen with
  | [y0, y1, y2], _ =>
    have g0 := hf 0 n0 rfl
    have g1 := hf 1 n1 rfl
    have g2 := hf 2 n2 rfl
    obtain ⟨a, e0, _, _⟩ := DataW.trod_int h0 g0
    obtain ⟨b, e1, _, _⟩ := DataW.trod_int h1 g1
    obtain ⟨c, e2, _, _⟩ := DataW.trod_int h2 g2
    rw [hC] at hl
    match cs, hl with
    | [u, v, t], _ =>
      simp [o0, c0] at e0
      simp [o1, c1] at e1
      simp [o2, c2] at e2
      exact ⟨(a, b, c), trivial, by rw [e0, e1, e2]⟩
end
end Go.Proofs.YthbledeghanffaaDoor
