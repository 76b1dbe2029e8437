/- KitchenValid, WorkLeft, NextFire: what the program and the reference compute. -/
import Derived.Test.YthbledeghanffaaDoorKit
import Derived.Test.YthbledeghanffaaDoorTick7
set_option linter.unusedVariables false
set_option linter.unusedSimpArgs false
namespace Go.Proofs.YthbledeghanffaaDoor
open Go.ChangeShapes Go.WideShapes Go.ChangeAt Go.RowKit

def kitB (ks : List (List Ord)) : Bool := ks.all ticketB && decide (ks.length ≤ 4)
theorem le_len {n : Nat} (k : Nat) (h : n = k) : n ≤ k := by omega

set_option maxHeartbeats 2000000 in
theorem spec_kitchenValid (A : Option Addr) (c : Nat) (ks : List (List Ord)) (w : World) (h : SK w w.heap.size A ks) (hl : ks.length + total ks ≤ 1048576) :
    Calls Tryd.prog 28 #[.slice A ks.length c] w fun e w' => e = .returned (.bool (kitB ks)) ∧ Below w.heap.size w w' := by
  go_enter Tryd.func28, Tryd.ntmps28
  go_wp2
  go_loopw [3] (fun i wr => ∃ k : Nat, k ≤ ks.length ∧ i = .int .i64 k ∧ (ks.take k).all ticketB = true ∧ Below w.heap.size w wr) (fun i _ => ks.length - (intOf i).toNat)
  case atStart => exact ⟨0, Nat.zero_le _, rfl, by simp, Below.refl _ _⟩
  case round =>
    obtain ⟨k, hk, rfl, ha, hW⟩ := hrel
    have HA := Lib.hid ha
    clear ha
    by_cases hlt : k < ks.length
    · obtain ⟨b, off, rfl, hbl, hc⟩ := (h.below hW) (by omega)
      obtain ⟨Aj, cj, hcell, hso, -⟩ := hc k hlt
      have hlj := len_le_total ks k hlt
      clear hc
      cases h1 : ticketB ks[k]
      · go_wp2_with (go_at_call 22; refine (spec_ticketValid _ _ _ _ (hso.more hW.size) (by omega)).mono ?_; rintro e w1 ⟨rfl, b1⟩)
        go_ret
        exact ⟨ret_bool (by rw [kitB, all_false _ ks k hlt h1]; rfl), below_step hW b1⟩
      · go_wp2_with (go_at_call 22; refine (spec_ticketValid _ _ _ _ (hso.more hW.size) (by omega)).mono ?_; rintro e w1 ⟨rfl, b1⟩)
        go_roundw
        case rel => exact ⟨k + 1, by omega, by go_num, by rw [all_take_succ _ ks k hlt, HA.out, h1]; rfl, below_step hW b1⟩
        case measure => simp [intOf]; omega
    · obtain rfl : k = ks.length := by omega
      rw [List.take_length] at HA
      go_wp2
      go_ret
      exact ⟨ret_bool (by rw [kitB, HA.out, Bool.true_and, decide_eq_decide]; omega), hW⟩
set_option maxHeartbeats 2000000 in
theorem impl_kitchenValid (A : Option Addr) (c : Nat) (ks : List (List Ord)) (w : World) (h : SK w w.heap.size A ks) (hl : ks.length + total ks ≤ 1048576) :
    Calls Tryd.prog 27 #[.slice A ks.length c] w fun e w' => e = .returned (.bool (kitB ks)) ∧ Below w.heap.size w w' := by
  by_cases h4 : ks.length ≤ 4
  · go_enter Tryd.func27, Tryd.ntmps27
    go_wp2
    go_loopw [4, 10] (fun _ i wr => ∃ k : Nat, k ≤ ks.length ∧ i = .int .i64 k ∧ (ks.take k).all ticketB = true ∧ Below w.heap.size w wr) (fun _ i _ => ks.length - (intOf i).toNat)
    case atStart => exact ⟨0, Nat.zero_le _, rfl, by simp, Below.refl _ _⟩
    case round =>
      obtain ⟨k, hk, rfl, ha, hW⟩ := hrel
      have HA := Lib.hid ha
      clear ha
      by_cases hlt : k < ks.length
      · obtain ⟨b, off, rfl, hbl, hc⟩ := (h.below hW) (by omega)
        obtain ⟨Aj, cj, hcell, hso, -⟩ := hc k hlt
        have hlj := len_le_total ks k hlt
        clear hc
        cases h1 : ticketB ks[k]
        · go_wp2_with (go_at_call 19; refine (impl_ticketValid _ _ _ _ (hso.more hW.size) (by omega)).mono ?_; rintro e w1 ⟨rfl, b1⟩)
          go_ret
          exact ⟨ret_bool (by rw [kitB, all_false _ ks k hlt h1]; rfl), below_step hW b1⟩
        · go_wp2_with (go_at_call 19; refine (impl_ticketValid _ _ _ _ (hso.more hW.size) (by omega)).mono ?_; rintro e w1 ⟨rfl, b1⟩)
          go_roundw
          case rel => exact ⟨k + 1, by omega, by go_num, by rw [all_take_succ _ ks k hlt, HA.out, h1]; rfl, below_step hW b1⟩
          case measure => simp [intOf]; omega
      · obtain rfl : k = ks.length := by omega
        rw [List.take_length] at HA
        go_wp2
        go_ret
        exact ⟨ret_bool (by rw [kitB, HA.out, decide_eq_true h4]; rfl), hW⟩
  · have hn : Hid (kitB ks = false) := by simp [Hid, kitB, h4]
    replace h4 : 4 < ks.length := by omega
    go_enter Tryd.func27, Tryd.ntmps27
    go_wp2
    go_ret
    exact ⟨ret_bool hn.out.symm, Below.refl _ _⟩

/-! ### WorkLeft -/
def leftO (o : Ord) : Int := if o.2 < 3 then 3 - o.2 else 0
def leftT (os : List Ord) : Int := (os.map leftO).sum
def leftK (ks : List (List Ord)) : Int := (ks.map leftT).sum
def workLeftF (ks : List (List Ord)) : Int := if kitB ks = true then leftK ks else -1
theorem leftT_succ (os : List Ord) (k : Nat) (h : k < os.length) : leftT (os.take (k + 1)) = leftT (os.take k) + leftO os[k] := by
  simp only [leftT]; rw [List.take_succ_eq_append_getElem h, List.map_append, List.sum_append]; simp
theorem leftK_succ (ks : List (List Ord)) (k : Nat) (h : k < ks.length) : leftK (ks.take (k + 1)) = leftK (ks.take k) + leftT ks[k] := by
  simp only [leftK]; rw [List.take_succ_eq_append_getElem h, List.map_append, List.sum_append]; simp
theorem kit_ticket {ks : List (List Ord)} (h : kitB ks = true) (k : Nat) (hk : k < ks.length) : ticketB ks[k] = true := by
  simp only [kitB, Bool.and_eq_true] at h
  exact List.all_eq_true.1 h.1 _ (List.getElem_mem hk)
theorem ticket_state {os : List Ord} (h : ticketB os = true) : ∀ o ∈ os, 0 ≤ o.2 ∧ o.2 ≤ 4 := by
  simp only [ticketB, Bool.and_eq_true] at h
  intro o ho
  have := List.all_eq_true.1 (ticket_range h.1) o ho
  simp only [rangeB, Bool.and_eq_true, inB_true] at this
  exact this.2
theorem leftT_bound {os : List Ord} (h : ∀ o ∈ os, 0 ≤ o.2 ∧ o.2 ≤ 4) : 0 ≤ leftT os ∧ leftT os ≤ 3 * os.length := by
  induction os with
  | nil => simp [leftT]
  | cons o t ih =>
    have h1 := h o (by simp)
    have h2 := ih fun x hx => h x (by simp [hx])
    have e : leftT (o :: t) = leftO o + leftT t := by simp [leftT]
    have h3 : 0 ≤ leftO o ∧ leftO o ≤ 3 := by unfold leftO; split <;> omega
    rw [e, List.length_cons]
    omega
theorem leftK_bound {ks : List (List Ord)} (h : ∀ os ∈ ks, ∀ o ∈ os, 0 ≤ o.2 ∧ o.2 ≤ 4) : 0 ≤ leftK ks ∧ leftK ks ≤ 3 * total ks := by
  induction ks with
  | nil => simp [leftK, total]
  | cons os t ih =>
    have h1 := leftT_bound (h os (by simp))
    have h2 := ih fun x hx => h x (by simp [hx])
    have e : leftK (os :: t) = leftT os + leftK t := by simp [leftK]
    have e2 : total (os :: t) = os.length + total t := by simp [total]
    rw [e, e2]
    omega
end Go.Proofs.YthbledeghanffaaDoor
