/- PaysOk: what the program and the reference compute. -/
import Derived.Test.YtgndokhehooplaaOwV
import Derived.Test.YtgndokhehooplaaPays
import Derived.Test.YtgndokhehooplaaSfP
import Derived.RegionTactic
import Derived.ChangeAlike
set_option linter.unusedVariables false
set_option linter.unusedSimpArgs false
namespace Go.Proofs.Ytgndokhehooplaa
open Go.ChangeShapes Go.WideShapes Go.ChangeAt Go.RowKit

theorem int_EI : EI Try.prog 22 3 1 8 := EI.mk Try.underlying22 int_info rfl (by omega)

/-! ### the plain functions -/
def payOk (n : Nat) (p : PayT) : Bool := inB p.1 0 (n - 1) && (inB p.2.1 0 (n - 1) && (!(p.1 == p.2.1) && inB p.2.2 1 9999))
def payStep (l : List Int) (p : PayT) : List Int :=
  (l.set p.1.toNat (l.getD p.1.toNat 0 + p.2.2)).set p.2.1.toNat ((l.set p.1.toNat (l.getD p.1.toNat 0 + p.2.2)).getD p.2.1.toNat 0 - p.2.2)
def paysOpen (owed : List Int) (ps : List PayT) : List Int := ps.foldl payStep owed
def paysB (owed : List Int) (ps : List PayT) : Bool := owedB owed && (ps.all (payOk owed.length) && (paysOpen owed ps).all fun x => x == 0)
theorem payStep_length (l : List Int) (p : PayT) : (payStep l p).length = l.length := by simp [payStep]
theorem paysOpen_length (owed : List Int) (ps : List PayT) : (paysOpen owed ps).length = owed.length := by
  unfold paysOpen
  induction ps generalizing owed with
  | nil => rfl
  | cons p t ih => rw [List.foldl_cons, ih, payStep_length]
theorem paysOpen_succ (owed : List Int) (ps : List PayT) (k : Nat) (h : k < ps.length) : paysOpen owed (ps.take (k + 1)) = payStep (paysOpen owed (ps.take k)) ps[k] := by
  unfold paysOpen
  rw [List.take_succ_eq_append_getElem h, List.foldl_append]; rfl
theorem payStep_at (l : List Int) (f t : Nat) (s : Int) (hf : f < l.length) (ht : t < l.length) (hne : f ≠ t) : payStep l ((f : Int), (t : Int), s) = (l.set f (l[f] + s)).set t (l[t] - s) := by
  simp only [payStep, Int.toNat_natCast]
  rw [List.getD_eq_getElem?_getD, List.getD_eq_getElem?_getD, List.getElem?_set_ne hne]
  simp [hf, ht]
/-- every number within M -/
def within (M : Int) (l : List Int) : Prop := ∀ x ∈ l, -M ≤ x ∧ x ≤ M
theorem within_at {M : Int} {l : List Int} (h : within M l) (k : Nat) (hk : k < l.length) : -M ≤ l[k] ∧ l[k] ≤ M := h _ (List.getElem_mem hk)
theorem within_set {M M' : Int} {l : List Int} (h : within M l) (hM : M ≤ M') (k : Nat) (x : Int) (hx : -M' ≤ x ∧ x ≤ M') : within M' (l.set k x) := by
  intro y hy
  rcases List.mem_or_eq_of_mem_set hy with h1 | h1
  · have := h y h1; omega
  · subst h1; exact hx
theorem ints_set (xs : List Int) (k : Nat) (x : Int) : (ints xs).set k (.int .i64 x) = ints (xs.set k x) := by simp [ints, List.map_set]
/-- A row of numbers that is known: reading and writing a place. -/
theorem row_at {w : World} {base n cap g : Nat} {xs : List Int} (h : w.ownsRow base 3 1 (.slice (some ⟨g, 0, none⟩) n cap) n (ints xs)) (k : Nat) (hk : k < xs.length) :
    w.cell? ⟨g, k, none⟩ = some (.int .i64 xs[k]) ∧ w.frozen? ⟨g, k, none⟩ = false := by
  have hl : xs.length = n := by have := h.1; rw [ints_length] at this; omega
  refine ⟨?_, h.frozenAt k⟩
  rw [h.cellAt k (by omega)]
  simp [ints, hk]
theorem own_alike {w w' : World} {base n size : Nat} {e : TypeId} {v : Value} {cs : List Value} (h : w.ownsRow base e size v n cs) (hg : w'.heap = w.heap) : w'.ownsRow base e size v n cs := by
  refine ⟨h.1, ?_⟩
  rcases h.2 with h0 | ⟨g, cap, cur, h1, h2, h3, r⟩
  · exact .inl h0
  · exact .inr ⟨g, cap, cur, h1, h2, by rw [hg]; exact h3, r⟩

/-! ### the loop that looks for what is not nothing -/
def zeroB (l : List Int) : Bool := l.all fun x => x == 0
end Go.Proofs.Ytgndokhehooplaa
