/- The laws of tasks: lemmas that all of them use. -/
import Derived.Test.YtjicpdleacnlaaaDoorDrawTkL
import Derived.Test.YtjicpdleacnlaaaDoorTask6
import Derived.Test.YtjicpdleacnlaaaDoorTaskW
import Derived.Test.YtjicpdleacnlaaaDoorSamB
set_option linter.unusedVariables false
set_option linter.unusedSimpArgs false
namespace Go.Proofs.YtjicpdleacnlaaaDoor
open Go.ChangeShapes Go.WideShapes Go.ChangeAt Go.RowKit

theorem ST.step {w w' : World} {A : Option Addr} {ts : List Tsk} (h : ST w w.heap.size A ts) (b : Below w.heap.size w w') : ST w' w'.heap.size A ts := (h.below b).more b.size
theorem ST.take {w : World} {B : Nat} {A : Option Addr} {ts : List Tsk} (h : ST w B A ts) (n : Nat) : ST w B A (ts.take n) := by
  intro hp
  have hp' : 0 < ts.length := by rw [List.length_take] at hp; omega
  obtain ⟨b, off, e, hb, hc⟩ := h hp'
  refine ⟨b, off, e, hb, fun j hj => ?_⟩
  have hj' : j < ts.length := by rw [List.length_take] at hj; omega
  have := hc j hj'
  rwa [← List.getElem_take (h := hj)] at this
theorem TK.form {w : World} {lo : Nat} {v : Value} {ts : List Tsk} (h : TK w lo v ts) : ∃ A c, v = .slice A ts.length c ∧ ts.length ≤ c ∧ c ≤ maxLen := by
  obtain ⟨ps, h1⟩ := h
  exact h1.form
theorem totT_take {ts : List Tsk} (n : Nat) : (ts.take n).length + totT (ts.take n) ≤ ts.length + totT ts := by
  have h1 := totT_take_le ts n
  have h2 : (ts.take n).length ≤ ts.length := by rw [List.length_take]; omega
  omega
theorem ints_oneT (xs : List Int) : ∀ u ∈ ints xs, u.oneCell' = true := ints_one xs
set_option maxHeartbeats 1000000 in
theorem hasInt_any (A : Option Addr) (c : Nat) (xs : List Int) (n : Int) (w : World) (B : Nat) (h : IS w B A xs) (hl : xs.length ≤ 1048576) :
    Calls Tryd.prog 47 #[.slice A xs.length c, .int .i64 n] w fun e w' => e = .returned (.bool (hasB xs n)) ∧ w = w' := by
  go_enter Tryd.func47, Tryd.ntmps47
  go_wp2
  go_loop [5] (fun i => ∃ k : Nat, k ≤ xs.length ∧ i = .int .i64 k ∧ (xs.take k).any (fun x => x == n) = false) (fun i => xs.length - (intOf i).toNat)
  case atStart => exact ⟨0, Nat.zero_le _, rfl, by simp⟩
  case round =>
    obtain ⟨k, hk, rfl, ha⟩ := hrel
    have HA := Lib.hid ha
    clear ha
    by_cases hlt : k < xs.length
    · obtain ⟨b, off, rfl, hbl, hc⟩ := h.at_ (by omega)
      have hck := hc k hlt
      by_cases h1 : (xs[k] == n) = true
      · go_wp2
        go_ret
        exact ⟨ret_bool (by rw [hasB, any_true _ xs k hlt h1]), rfl⟩
      · have h1' : (xs[k] == n) = false := by simpa using h1
        clear h1
        go_wp2
        go_round
        case rel => exact ⟨k + 1, by omega, by go_num, by rw [any_take_succ _ xs k hlt, HA.out, h1']; rfl⟩
        case measure => simp [intOf]; omega
    · go_wp2
      go_ret
      exact ⟨ret_bool (by rw [hasB, ← HA.out, List.take_of_length_le (by omega)]), rfl⟩
end Go.Proofs.YtjicpdleacnlaaaDoor
