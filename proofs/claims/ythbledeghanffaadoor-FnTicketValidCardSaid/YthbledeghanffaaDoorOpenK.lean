/- A slice of slices of orders that came in. -/
import Derived.Test.YthbledeghanffaaDoorOpen
import Derived.Test.YthbledeghanffaaDoorKit
set_option linter.unusedVariables false
set_option linter.unusedSimpArgs false
namespace Go.Proofs.YthbledeghanffaaDoor
open Go Go.ChangeShapes Go.WideShapes Go.ChangeAt Go.RowKit

def rawK (a : Option Addr × Nat × Nat) : List Value := [.slice a.1 a.2.1 a.2.2]
def rawQ (W : World) (a : Option Addr × Nat × Nat) (os : List Ord) : Prop := a.2.1 = os.length ∧ SO W W.heap.size a.1 os ∧ os.length ≤ a.2.2 ∧ a.2.2 ≤ maxLen
theorem pick_all {α β : Type} (R : α → β → Prop) : ∀ (xs : List α), (∀ a ∈ xs, ∃ b, R a b) → ∃ ys : List β, ys.length = xs.length ∧ ∀ j (h : j < xs.length) (h' : j < ys.length), R xs[j] ys[j]
  | [], _ => ⟨[], rfl, fun j h => absurd h (by simp)⟩
  | x :: t, h => by
    obtain ⟨b, hb⟩ := h x (by simp)
    obtain ⟨ys, hl, hy⟩ := pick_all R t (fun a ha => h a (by simp [ha]))
    refine ⟨b :: ys, by simp [hl], fun j h1 h2 => ?_⟩
    cases j with
    | zero => exact hb
    | succ j => exact hy j (by simpa using h1) (by simpa using h2)
section
variable {H : Type} {enc : TypeId × Value → H} {P : Program} {W : World}
theorem open_SK {t ts e : TypeId} {n0 n1 : Field} (ht : P.underlying t = some (.slice ts)) (hts : P.underlying ts = some (.slice e)) (he : P.underlying e = some (.struct #[n0, n1])) (h0 : P.underlying n0.type = some (.int .i64)) (h1 : P.underlying n1.type = some (.int .i64))
    (o0 : n0.offset = 0) (o1 : n1.offset = 1) (c0 : P.cellsOf n0.type = 1) (c1 : P.cellsOf n1.type = 1) (hC : P.cellsOf e = 2) (hC1 : P.cellsOf ts = 1) {r : Reach} {b0 : Nat} {v : Value} {d : DataW H} {p : List MemPlace}
    (hv : Value.okWide P W r b0 t v) (h : DataW.Trod enc P W 0 (fun _ => true) true t v d p) :
    ∃ A c ks, v = .slice A ks.length c ∧ SK W W.heap.size A ks ∧ ks.length ≤ c ∧ c ≤ maxLen := by
  obtain ⟨A, c, raws, rfl, hr, hle, hmx, hq⟩ := open_RV rawK 1 (fun _ => rfl) (by omega) (fun a => ∃ os, rawQ W a os) ht hC1
    (fun n cs x hx => by
      obtain ⟨Aj, cj, os, e, hso, hlj, hmj, _⟩ := open_RV0 encO 2 encO_len (by omega) (fun _ => True) hts hC (fun n cs x h => open_two he h0 h1 o0 o1 c0 c1 hC n cs x h) hx
      exact ⟨(Aj, os.length, cj), ⟨os, rfl, hso, hlj, hmj⟩, e⟩) hv h
  obtain ⟨ks, hl, hk⟩ := pick_all (rawQ W) raws hq
  refine ⟨A, c, ks, by rw [hl], fun hp => ?_, by omega, hmx⟩
  obtain ⟨b, off, e, hb, hc⟩ := RV.flatAt (enc := rawK) (s := 1) (fun _ => rfl) hr (by omega) (by omega)
  refine ⟨b, off, e, hb, fun j hj => ?_⟩
  obtain ⟨q1, q2, q3, q4⟩ := hk j (by omega) hj
  have := hc j (by omega) 0 _ rfl
  rw [Nat.mul_one, Nat.add_zero, q1] at this
  exact ⟨_, _, this, q2, q3, q4⟩
end
theorem SK.lens {w : World} {B : Nat} {A : Option Addr} {ks : List (List Ord)} (h : SK w B A ks) : ∀ j (hj : j < ks.length), ks[j].length ≤ 9223372036854775807 := by
  intro j hj
  obtain ⟨b, off, _, _, hc⟩ := h (by omega)
  obtain ⟨Aj, cj, _, _, h1, h2⟩ := hc j hj
  simp [maxLen] at h2
  omega

/-! ### the range of blocks of what the call made -/
def OKR (w : World) (lo hi : Nat) (v : Value) (rows : List Row) : Prop :=
  ∃ vs, OwnR w lo hi 25 1 v rows.length vs ∧ Inn w lo vs rows ∧ ∀ j (h : j < vs.length) g, vs[j].ownBlock = some g → g < hi
section
variable {w w' : World} {lo hi lo' hi' : Nat} {v : Value} {rows : List Row}
theorem OKR.mk (h : OK w lo v rows) : OKR w lo w.heap.size v rows := by
  obtain ⟨vs, h1, h2⟩ := h
  refine ⟨vs, OwnR.mk h1, h2, fun j hj g hg => ?_⟩
  obtain ⟨Aj, cj, e, ho⟩ := h2.at_ j (by rw [← h2.len]; exact hj) hj
  rw [e] at hg
  exact (World.ownsRow.lt ho g hg).2
theorem OKR.ok (h : OKR w lo hi v rows) : OK w lo v rows := by
  obtain ⟨vs, h1, h2, _⟩ := h
  exact ⟨vs, h1.1, h2⟩
theorem OKR.below (h : OKR w lo hi v rows) (b : Below w.heap.size w w') : OKR w' lo hi v rows := by
  obtain ⟨vs, h1, h2, h3⟩ := h
  exact ⟨vs, h1.below b, h2.below b, h3⟩
theorem OKR.chg (h : OKR w lo hi v rows) (c : Chg lo' hi' w w') (ha : hi ≤ lo' ∨ hi' ≤ lo) : OKR w' lo hi v rows := by
  obtain ⟨vs, h1, h2, h3⟩ := h
  refine ⟨vs, h1.chg c ha, ⟨h2.len, fun j hj hj' => ?_, h2.apart⟩, h3⟩
  obtain ⟨Aj, cj, e, ho⟩ := h2.at_ j hj hj'
  refine ⟨Aj, cj, e, own_keep ho fun g hg => ?_⟩
  have hlt := World.ownsRow.lt ho g hg
  have hhi := h3 j hj' g (by rw [e]; exact hg)
  exact c.block g hlt.2 (by omega)
theorem OKR.reads {ks : List (List Ord)} {A : Option Addr} {n c : Nat} (h : OKR w lo hi (.slice A n c) (rowsOf ks)) : SK w w.heap.size A ks := OK.reads h.ok
end
end Go.Proofs.YthbledeghanffaaDoor
