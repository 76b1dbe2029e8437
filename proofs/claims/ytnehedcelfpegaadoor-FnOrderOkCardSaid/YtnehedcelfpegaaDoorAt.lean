/- Lists of numbers by place. -/
import Derived.Test.YtnehedcelfpegaaDoorMem
set_option linter.unusedVariables false
set_option linter.unusedSimpArgs false
namespace Go.Proofs.YtnehedcelfpegaaDoor
open Go Go.RowKit
def at0 (l : List Int) (k : Nat) : Int := l.getD k 0
theorem at0_eq {l : List Int} {k : Nat} (h : k < l.length) : l[k] = at0 l k := by simp [at0, h]
theorem at0_mem {l : List Int} {k : Nat} (h : k < l.length) : at0 l k ∈ l := by rw [← at0_eq h]; exact List.getElem_mem h
theorem at0_set_ne (l : List Int) (i j : Nat) (a : Int) (h : i ≠ j) : at0 (l.set i a) j = at0 l j := by
  simp only [at0, List.getD_eq_getElem?_getD, List.getElem?_set_ne h]
theorem at0_set_eq (l : List Int) (i : Nat) (a : Int) (h : i < l.length) : at0 (l.set i a) i = a := by
  simp [at0, h]
theorem IS.at0_ {w : World} {B : Nat} {A : Option Addr} {xs : List Int} (h : IS w B A xs) (hp : 0 < xs.length) : ∃ b off, A = some ⟨b, off, none⟩ ∧ b < B ∧ ∀ j, j < xs.length → w.cell? ⟨b, off + j, none⟩ = some (.int .i64 (at0 xs j)) := by
  obtain ⟨b, off, e, hb, hc⟩ := h.at_ hp
  exact ⟨b, off, e, hb, fun j hj => by rw [← at0_eq hj]; exact hc j hj⟩
theorem row_at0 {w : World} {base n cap g : Nat} {xs : List Int} (h : w.ownsRow base 3 1 (.slice (some ⟨g, 0, none⟩) n cap) n (ints xs)) (k : Nat) (hk : k < xs.length) :
    w.cell? ⟨g, k, none⟩ = some (.int .i64 (at0 xs k)) ∧ w.frozen? ⟨g, k, none⟩ = false := by
  have hl : xs.length = n := by have := h.1; rw [ints_length] at this; omega
  refine ⟨?_, h.frozenAt k⟩
  rw [h.cellAt k (by omega), ← at0_eq hk]
  simp [ints, hk]
theorem row_set {w : World} {base n cap g : Nat} {xs : List Int} (h : w.ownsRow base 3 1 (.slice (some ⟨g, 0, none⟩) n cap) n (ints xs)) (k : Nat) (x : Int) :
    (w.setCell ⟨g, k, none⟩ (.int .i64 x)).ownsRow base 3 1 (.slice (some ⟨g, 0, none⟩) n cap) n (ints (xs.set k x)) := by
  have e : (ints xs).set k (.int .i64 x) = ints (xs.set k x) := by simp [ints, List.map_set]
  rw [← e]
  exact (h.stored k _).1
theorem own_head {w : World} {base n size cap : Nat} {e : TypeId} {A : Option Addr} {cs : List Value} (h : w.ownsRow base e size (.slice A n cap) n cs) (hp : 0 < n) : ∃ g, A = some ⟨g, 0, none⟩ ∧ base ≤ g := by
  rcases h.2 with ⟨hv, hn⟩ | ⟨g, cap, cur, hv, hb, _⟩
  · omega
  · injection hv with h1 _ _
    exact ⟨g, h1, hb⟩
theorem ints_replicate (n : Nat) : ints (List.replicate n 0) = List.replicate n (.int .i64 0) := by simp [ints]
theorem below_like {B d : Nat} {w X Y : World} (h : Below B w X) (e : Y = { X with drawn := d }) : Below B w Y := by
  subst e
  exact ⟨h.os, h.tape, h.output, h.size, h.block⟩
end Go.Proofs.YtnehedcelfpegaaDoor
