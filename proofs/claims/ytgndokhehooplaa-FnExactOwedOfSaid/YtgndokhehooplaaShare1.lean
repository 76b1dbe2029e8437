/- ShareOf: what the program and the reference compute. -/
import Derived.Test.YtgndokhehooplaaShareP
import Derived.StillTailTactics
set_option linter.unusedVariables false
set_option linter.unusedSimpArgs false
namespace Go.Proofs.Ytgndokhehooplaa
open Go.ChangeShapes Go.WideShapes Go.ChangeAt Go.RowKit

theorem int_EIS : EI Try.prog 22 3 1 8 := EI.mk Try.underlying22 int_info rfl (by omega)
theorem oi_pushS {w : World} {base n : Nat} {v : Value} {xs : List Int} {k : Int} (hn : xs.length = n) (h : w.ownsRow base 3 1 v (n + 1) (ints xs ++ [.int .i64 k])) : OI w base v (xs ++ [k]) := by
  subst hn
  rw [OI, ints_append, List.length_append]; exact h
theorem own_setlt {w : World} {base n size : Nat} {e : TypeId} {v : Value} {cs : List Value} {p : Addr} {u : Value} (h : w.ownsRow base e size v n cs) (hp : p.block < base) : (w.setCell p u).ownsRow base e size v n cs := by
  refine ⟨h.1, ?_⟩
  rcases h.2 with h0 | ⟨g, cap, cur, hv, hb, hg, r⟩
  · exact .inl h0
  · exact .inr ⟨g, cap, cur, hv, hb, by rw [Below.heap_setCell _ _ _ _ (by omega)]; exact hg, r⟩
theorem own_sum {xs : List Int} {M : Int} (hM : M ≤ 1000000) (h : ∀ a, 0 ≤ at0 xs a ∧ at0 xs a ≤ M) : ∀ x ∈ xs, -1000000 ≤ x ∧ x ≤ 1000000 := by
  intro x hx
  obtain ⟨k, hk, e⟩ := List.getElem_of_mem hx
  have := h k
  rw [← at0_eq hk, e] at this
  omega
theorem share_mem {xs : List Int} {s : Int} (h : shareOk xs s = true) : ∀ x ∈ xs, -1000000 ≤ x ∧ x ≤ 1000000 := own_sum (M := 20) (by omega) (share_parts h).2.1
theorem div_facts {s x all : Int} (h : 0 ≤ s * x) : (s * x).tdiv all = s * x / all ∧ (s * x).tmod all = s * x % all := ⟨Int.tdiv_eq_ediv_of_nonneg h, Int.tmod_eq_emod_of_nonneg h⟩
set_option maxRecDepth 20000 in
set_option maxHeartbeats 4000000 in
theorem shareClosure (A : Option Addr) (c pS pX pA : Nat) (xs : List Int) (s : Int) (w : World) (B : Nat) (h : IS w B A xs) (hok : shareOk xs s = true)
    (c1 : w.cell? ⟨pS, 0, none⟩ = some (.int .i64 s)) (c2 : w.cell? ⟨pX, 0, none⟩ = some (.slice A xs.length c)) (c3 : w.cell? ⟨pA, 0, none⟩ = some (.int .i64 xs.sum)) (i j : Nat) (hi : i < xs.length) (hj : j < xs.length) :
    Calls Try.prog 46 #[.int .i64 i, .int .i64 j, .pointer (some ⟨pS, 0, none⟩), .pointer (some ⟨pX, 0, none⟩), .pointer (some ⟨pA, 0, none⟩)] w fun e w' => e = .returned (.int .i64 (togC (shR xs s xs.sum) i j)) ∧ ∃ q, w' = w.drewN q := by
  obtain ⟨h1, h2, h3, h4, h5⟩ := share_parts hok
  have HT := Lib.hid (show togC (shR xs s xs.sum) i j = s * at0 xs j % xs.sum - s * at0 xs i % xs.sum by rw [togC, Int.toNat_natCast, Int.toNat_natCast, shR_at _ _ _ _ hi, shR_at _ _ _ _ hj])
  rw [HT.out]
  obtain ⟨b, off, rfl, hbl, hc⟩ := h.at0_ (by omega)
  have e1 := hc i hi
  have e2 := hc j hj
  obtain ⟨p1, p2, -, -, p3, p4⟩ := prod_b h5 (h2 i) h3
  obtain ⟨q1, q2, -, -, q3, q4⟩ := prod_b h5 (h2 j) h3
  obtain ⟨-, d1⟩ := div_facts (all := xs.sum) p1
  obtain ⟨-, d2⟩ := div_facts (all := xs.sum) q1
  clear hok HT hc h2
  generalize at0 xs i = x at *
  generalize at0 xs j = y at *
  generalize xs.sum = all at *
  have ha0 : (all == 0) = false := by rw [beq_eq_false_iff_ne]; omega
  have ha1 : ¬ all = 0 := by omega
  generalize s * x % all = r1 at *
  generalize s * y % all = r2 at *
  generalize hp : s * x = px at *
  generalize hq : s * y = py at *
  go_enter Try.func46, Try.ntmps46
  go_wp2_with fail
  go_quiet (fail)
  go_wp2
  go_ret
  exact ⟨rfl, _, rfl⟩
end Go.Proofs.Ytgndokhehooplaa
