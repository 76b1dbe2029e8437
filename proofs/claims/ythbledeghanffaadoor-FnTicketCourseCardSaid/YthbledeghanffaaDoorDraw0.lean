/- The reader is made; the code that came in. -/
import Derived.Test.YthbledeghanffaaDoorRead
import Derived.Test.YthbledeghanffaaDoorOpen
set_option linter.unusedVariables false
set_option linter.unusedSimpArgs false
namespace Go.Proofs.YthbledeghanffaaDoor
open Go.ChangeShapes Go.WideShapes Go.ChangeAt Go.RowKit

theorem RV.take_ {w : World} {B : Nat} {A : Option Addr} {cs : List Value} (h : RV w B A cs) (k : Nat) : RV w B A (cs.take k) := by
  intro hp
  have hl : (cs.take k).length ≤ cs.length := by rw [List.length_take]; omega
  obtain ⟨b, off, e, hb, hc⟩ := h (by omega)
  exact ⟨b, off, e, hb, fun j hj => by rw [List.getElem_take]; exact hc j (by rw [List.length_take] at hj; omega)⟩
set_option maxHeartbeats 1000000 in
theorem open_any (A : Option Addr) (c : Nat) (xs : List Int) (w : World) (h : RV w w.heap.size A (bts xs)) (hc : xs.length ≤ c) (hl : xs.length ≤ 1048576) (hb : ∀ x ∈ xs, 0 ≤ x ∧ x ≤ 255) :
    Calls Tryd.prog 53 #[.slice A xs.length c] w fun e w' => ∃ g, e = .returned (.pointer (some ⟨g, 0, none⟩)) ∧ Rd w' w.heap.size g 0 ∧ Below w.heap.size w w' := by
  have H := Lib.hid h
  have HB := Lib.hid hb
  have key : ∀ (A : Option Addr) (c : Nat) (ys : List Int), RV w w.heap.size A (bts ys) → ys.length ≤ 2000 → (∀ x ∈ ys, 0 ≤ x ∧ x ≤ 255) → Rd (w.alloc (.cells #[.slice A ys.length c, .int .i64 0] 77)) w.heap.size w.heap.size 0 :=
    fun A c ys h1 h2 h3 => ⟨A, c, ys, 0, Blk.new w _ _, Nat.le_refl _, h1.below (below_al (Below.refl _ _) _), h2, h3, Nat.le_refl _⟩
  have HK := Lib.hid key
  clear h hb key
  by_cases h2 : xs.length ≤ 2000
  · go_enter Tryd.func53, Tryd.ntmps53
    go_wp2
    go_ret
    exact ⟨_, rfl, HK.out A c xs H.out h2 HB.out, below_al (Below.refl _ _) _⟩
  · replace h2 : 2000 < xs.length := by omega
    have hc2 : 2000 ≤ c := by omega
    have HT : Hid (Rd (w.alloc (.cells #[.slice A 2000 c, .int .i64 0] 77)) w.heap.size w.heap.size 0) := by
      have hlen : (xs.take 2000).length = 2000 := by rw [List.length_take]; omega
      have := HK.out A c (xs.take 2000) (by have := H.out.take_ 2000; rwa [bts, ← List.map_take] at this) (by omega) (fun x hx => HB.out x (List.mem_of_mem_take hx))
      rwa [hlen] at this
    go_enter Tryd.func53, Tryd.ntmps53
    go_wp2
    go_ret
    exact ⟨_, rfl, HT.out, below_al (Below.refl _ _) _⟩
section
variable {H : Type} {enc : TypeId × Value → H} {P : Program} {W : World}
/-- The code: a slice of bytes. -/
theorem open_BS {t e : TypeId} (ht : P.underlying t = some (.slice e)) (he : P.underlying e = some (.int .u8)) (hC : P.cellsOf e = 1) {r : Reach} {b0 : Nat} {v : Value} {d : DataW H} {p : List MemPlace}
    (hv : Value.okWide P W r b0 t v) (h : DataW.Trod enc P W 0 (fun _ => true) true t v d p) :
    ∃ A c xs, v = .slice A xs.length c ∧ RV W W.heap.size A (bts xs) ∧ xs.length ≤ c ∧ c ≤ maxLen ∧ ∀ x ∈ xs, 0 ≤ x ∧ x ≤ 255 := by
  obtain ⟨A, c, ys, e, hr, h1, h2, h3⟩ := open_RV (fun x : Int => [.int .u8 x]) 1 (fun _ => rfl) (by omega) (fun x => 0 ≤ x ∧ x ≤ 255) ht hC (fun n cs y hy => by
    obtain ⟨a, e0, _, hw⟩ := DataW.trod_int he hy
    refine ⟨a, ?_, e0⟩
    exact bounds_u8 hw) hv h
  have hf : ∀ ys : List Int, flat (fun x : Int => [Value.int .u8 x]) ys = bts ys := by
    intro ys
    induction ys with
    | nil => rfl
    | cons y t ih => simp only [flat, bts, List.flatMap_cons, List.map_cons] at *; rw [ih]; rfl
  rw [hf] at hr
  exact ⟨A, c, ys, e, hr, h1, h2, h3⟩
end
end Go.Proofs.YthbledeghanffaaDoor
