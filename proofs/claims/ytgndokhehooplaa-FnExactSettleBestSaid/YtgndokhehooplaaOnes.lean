/- bits.OnesCount of a small number; SettleLeast: what the program and the reference compute. -/
import Derived.Test.YtgndokhehooplaaMost6
set_option linter.unusedVariables false
set_option linter.unusedSimpArgs false
namespace Go.Proofs.Ytgndokhehooplaa
open Go.ChangeShapes Go.WideShapes Go.ChangeAt Go.RowKit

def oc1 (x : Int) : Int := IntKind.u64.wrap (bits .and .u64 (x / 2) 6148914691236517205 + bits .and .u64 x 6148914691236517205)
def oc2 (x : Int) : Int := IntKind.u64.wrap (bits .and .u64 (x / 4) 3689348814741910323 + bits .and .u64 x 3689348814741910323)
def oc3 (x : Int) : Int := bits .and .u64 (IntKind.u64.wrap (x / 16 + x)) 1085102592571150095
def oc4 (x : Int) : Int := IntKind.u64.wrap (x + x / 256)
def oc5 (x : Int) : Int := IntKind.u64.wrap (x + x / 65536)
def oc6 (x : Int) : Int := IntKind.u64.wrap (x + x / 4294967296)
def ocF (x : Int) : Int := bits .and .i64 (wrap64 (oc6 (oc5 (oc4 (oc3 (oc2 (oc1 x))))))) 127
def popN : Nat → Nat → Nat
  | 0, _ => 0
  | f + 1, x => x % 2 + popN f (x / 2)
theorem oc_all : ((List.range 128).all fun x => decide (ocF (x : Int) = (popN 7 x : Int))) = true := by kernel_rfl
theorem oc_eq {x : Nat} (h : x < 128) : ocF (x : Int) = (popN 7 x : Int) := by
  have := List.all_eq_true.1 oc_all x (List.mem_range.2 h)
  simpa using this
theorem pop_conc : ∀ (f : Nat) (ow : List Int), ow.length ≤ f → popN f (concR ow) = (nz ow).length
  | 0, [], _ => rfl
  | f + 1, [], _ => by
    have : popN f 0 = 0 := by
      induction f with
      | zero => rfl
      | succ f ih => rw [popN]; simpa using ih
    simp [popN, concR, nz, this]
  | 0, x :: t, h => by simp at h
  | f + 1, x :: t, h => by
    have ih := pop_conc f t (by simpa using h)
    rw [popN, concR]
    by_cases hx : x = 0
    · rw [if_pos hx, nz_cons_zero t hx, show (0 + 2 * concR t) / 2 = concR t by omega, ih]; omega
    · rw [if_neg hx, nz_cons t hx, show (1 + 2 * concR t) / 2 = concR t by omega, ih, List.length_cons]; omega
set_option maxHeartbeats 2000000 in
theorem ones64_any (x : Nat) (w : World) (hx : x < 128) :
    Calls Try.prog 68 #[.int .u64 (x : Int)] w fun e w' => e = .returned (.int .i64 (ocF (x : Int))) ∧ w = w' := by
  go_enter Try.func68, Try.ntmps68
  go_wp2
  go_ret
  exact ⟨rfl, rfl⟩
theorem ones_any (x : Nat) (w : World) (hx : x < 128) :
    Calls Try.prog 37 #[.int .u64 (x : Int)] w fun e w' => e = .returned (.int .i64 (popN 7 x : Int)) ∧ w = w' := by
  have HO := Lib.hid (oc_eq hx)
  go_enter Try.func37, Try.ntmps37
  go_wp2_with fail
  refine (ones64_any x _ hx).mono ?_
  rintro e w' ⟨rfl, rfl⟩
  rw [HO.out]
  go_wp2
  go_ret
  exact ⟨rfl, rfl⟩
end Go.Proofs.Ytgndokhehooplaa
