/- TicketDo: what the program and the reference compute. -/
import Derived.Test.YthbledeghanffaaDoorTick3
set_option linter.unusedVariables false
set_option linter.unusedSimpArgs false
namespace Go.Proofs.YthbledeghanffaaDoor
open Go.ChangeShapes Go.WideShapes Go.ChangeAt Go.RowKit

/-! ### the next state -/
def nextF (s e : Int) : Int := if e = 0 ∧ s = 0 then 1 else if e = 1 ∧ s = 1 then 2 else if e = 2 ∧ s = 2 then 3 else if e = 3 ∧ s < 3 then 4 else -1
theorem beq_no {a b : Int} (h : a ≠ b) : (a == b) = false := by simpa using h
set_option maxHeartbeats 2000000 in
theorem l4Next_any (s e : Int) (w : World) : Calls Tryd.prog 65 #[.int .i64 s, .int .i64 e] w fun x w' => x = .returned (.int .i64 (nextF s e)) ∧ w = w' := by
  by_cases e0 : e = 0
  · subst e0
    by_cases s0 : s = 0
    · subst s0
      go_enter Tryd.func65, Tryd.ntmps65
      go_wp2
      go_ret
      exact ⟨rfl, rfl⟩
    · have hs := beq_no s0
      have hn : Hid (nextF s 0 = -1) := by simp [Hid, nextF, s0]
      go_enter Tryd.func65, Tryd.ntmps65
      go_wp2
      go_ret
      exact ⟨ret_int hn.out.symm, rfl⟩
  · by_cases e1 : e = 1
    · subst e1
      by_cases s0 : s = 1
      · subst s0
        go_enter Tryd.func65, Tryd.ntmps65
        go_wp2
        go_ret
        exact ⟨rfl, rfl⟩
      · have hs := beq_no s0
        have hn : Hid (nextF s 1 = -1) := by simp [Hid, nextF, s0]
        go_enter Tryd.func65, Tryd.ntmps65
        go_wp2
        go_ret
        exact ⟨ret_int hn.out.symm, rfl⟩
    · by_cases e2 : e = 2
      · subst e2
        by_cases s0 : s = 2
        · subst s0
          go_enter Tryd.func65, Tryd.ntmps65
          go_wp2
          go_ret
          exact ⟨rfl, rfl⟩
        · have hs := beq_no s0
          have hn : Hid (nextF s 2 = -1) := by simp [Hid, nextF, s0]
          go_enter Tryd.func65, Tryd.ntmps65
          go_wp2
          go_ret
          exact ⟨ret_int hn.out.symm, rfl⟩
      · by_cases e3 : e = 3
        · subst e3
          by_cases s0 : s < 3
          · have hn : Hid (nextF s 3 = 4) := by simp [Hid, nextF, s0]
            go_enter Tryd.func65, Tryd.ntmps65
            go_wp2
            go_ret
            exact ⟨ret_int hn.out.symm, rfl⟩
          · have hn : Hid (nextF s 3 = -1) := by simp [Hid, nextF, s0]
            replace s0 : 3 ≤ s := by omega
            go_enter Tryd.func65, Tryd.ntmps65
            go_wp2
            go_ret
            exact ⟨ret_int hn.out.symm, rfl⟩
        · have hn : Hid (nextF s e = -1) := by simp [Hid, nextF, e0, e1, e2, e3]
          have h0 := beq_no e0
          have h1 := beq_no e1
          have h2 := beq_no e2
          have h3 := beq_no e3
          clear e0 e1 e2 e3
          go_enter Tryd.func65, Tryd.ntmps65
          go_wp2
          go_ret
          exact ⟨ret_int hn.out.symm, rfl⟩
def stP (s e : Int) (x : Ending) (w w' : World) : Prop :=
  w = w' ∧ x = if nextF s e < 0 then .returned (.tuple #[.int .i64 0, .bool false]) else .returned (.tuple #[.int .i64 (nextF s e), .bool true])
set_option maxHeartbeats 2000000 in
theorem stateAfter_any (s e : Int) (w : World) (hs0 : 0 ≤ s) (hs4 : s ≤ 4) : Calls Tryd.prog 64 #[.int .i64 s, .int .i64 e] w fun x w' => stP s e x w w' := by
  by_cases e0 : e = 0
  · subst e0
    by_cases s0 : s = 0
    · subst s0
      go_enter Tryd.func64, Tryd.ntmps64
      go_wp2
      go_ret2
      exact ⟨rfl, rfl⟩
    · have hs := beq_no s0
      have hn : Hid (nextF s 0 = -1) := by simp [Hid, nextF, s0]
      clear s0
      go_enter Tryd.func64, Tryd.ntmps64
      go_wp2
      go_ret2
      exact ⟨rfl, by rw [hn.out]; rfl⟩
  · by_cases e1 : e = 1
    · subst e1
      by_cases s0 : s = 1
      · subst s0
        go_enter Tryd.func64, Tryd.ntmps64
        go_wp2
        go_ret2
        exact ⟨rfl, rfl⟩
      · have hs := beq_no s0
        have hn : Hid (nextF s 1 = -1) := by simp [Hid, nextF, s0]
        clear s0
        go_enter Tryd.func64, Tryd.ntmps64
        go_wp2
        go_ret2
        exact ⟨rfl, by rw [hn.out]; rfl⟩
    · by_cases e2 : e = 2
      · subst e2
        by_cases s0 : s = 2
        · subst s0
          go_enter Tryd.func64, Tryd.ntmps64
          go_wp2
          go_ret2
          exact ⟨rfl, rfl⟩
        · have hs := beq_no s0
          have hn : Hid (nextF s 2 = -1) := by simp [Hid, nextF, s0]
          clear s0
          go_enter Tryd.func64, Tryd.ntmps64
          go_wp2
          go_ret2
          exact ⟨rfl, by rw [hn.out]; rfl⟩
      · by_cases e3 : e = 3
        · subst e3
          have hc : s = 0 ∨ s = 1 ∨ s = 2 ∨ s = 3 ∨ s = 4 := by omega
          rcases hc with rfl | rfl | rfl | rfl | rfl
          all_goals
            go_enter Tryd.func64, Tryd.ntmps64
            go_wp2
            go_ret2
            exact ⟨rfl, rfl⟩
        · have hn : Hid (nextF s e = -1) := by simp [Hid, nextF, e0, e1, e2, e3]
          have h0 := beq_no e0
          have h1 := beq_no e1
          have h2 := beq_no e2
          have h3 := beq_no e3
          clear e0 e1 e2 e3
          go_enter Tryd.func64, Tryd.ntmps64
          go_wp2
          go_ret2
          exact ⟨rfl, by rw [hn.out]; rfl⟩
end Go.Proofs.YthbledeghanffaaDoor
