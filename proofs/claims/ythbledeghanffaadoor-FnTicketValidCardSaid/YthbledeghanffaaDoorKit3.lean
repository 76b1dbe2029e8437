/- WorkLeft, NextFire: the walks. -/
import Derived.Test.YthbledeghanffaaDoorKit2
import Derived.Test.YthbledeghanffaaDoorOpenK
set_option linter.unusedVariables false
set_option linter.unusedSimpArgs false
namespace Go.Proofs.YthbledeghanffaaDoor
open Go.ChangeShapes Go.WideShapes Go.ChangeAt Go.RowKit

theorem kit_states {ks : List (List Ord)} (h : kitB ks = true) : ∀ os ∈ ks, ∀ o ∈ os, 0 ≤ o.2 ∧ o.2 ≤ 4 := by
  intro os hos
  simp only [kitB, Bool.and_eq_true] at h
  exact ticket_state (List.all_eq_true.1 h.1 os hos)
theorem kit_acc {ks : List (List Ord)} (h : kitB ks = true) (k : Nat) (hl : ks.length + total ks ≤ 1048576) : 0 ≤ leftK (ks.take k) ∧ leftK (ks.take k) ≤ 3145728 := by
  have h1 := leftK_bound (ks := ks.take k) fun os hos => kit_states h os (List.mem_of_mem_take hos)
  have h2 := total_take_le ks k
  omega
theorem tick_acc {ks : List (List Ord)} (h : kitB ks = true) (k : Nat) (hk : k < ks.length) (hl : ks.length + total ks ≤ 1048576) (j : Nat) : 0 ≤ leftT (ks[k].take j) ∧ leftT (ks[k].take j) ≤ 3145728 := by
  have h1 := leftT_bound (os := ks[k].take j) fun o ho => kit_states h _ (List.getElem_mem hk) o (List.mem_of_mem_take ho)
  have h2 := len_le_total ks k hk
  have h3 : (ks[k].take j).length ≤ ks[k].length := by rw [List.length_take]; omega
  omega
theorem workLeft_no {ks : List (List Ord)} (h : kitB ks = false) : workLeftF ks = -1 := by simp [workLeftF, h]
theorem workLeft_yes {ks : List (List Ord)} (h : kitB ks = true) : workLeftF ks = leftK ks := by simp [workLeftF, h]

set_option maxHeartbeats 4000000 in
theorem spec_workLeft (A : Option Addr) (c : Nat) (ks : List (List Ord)) (w : World) (h : SK w w.heap.size A ks) (hl : ks.length + total ks ≤ 1048576) :
    Calls Tryd.prog 34 #[.slice A ks.length c] w fun e w' => e = .returned (.int .i64 (workLeftF ks)) ∧ Below w.heap.size w w' := by
  cases hv : kitB ks
  · have HV := Lib.hid (workLeft_no hv)
    go_enter Tryd.func34, Tryd.ntmps34
    go_wp2_with (go_at_call 28; refine (spec_kitchenValid _ _ _ _ h hl).mono ?_; rintro e w1 ⟨rfl, b1⟩)
    go_ret
    exact ⟨ret_int HV.out.symm, b1⟩
  · have HV := Lib.hid (workLeft_yes hv)
    have HK := Lib.hid hv
    go_enter Tryd.func34, Tryd.ntmps34
    go_wp2_with fail
    refine (spec_kitchenValid _ _ _ _ h hl).mono ?_
    rintro e w1 ⟨rfl, b1⟩
    have h1 := h.below b1
    go_wp2
    go_loop [3, 4] (fun t i => ∃ (k : Nat) (acc : Int), k ≤ ks.length ∧ i = .int .i64 k ∧ t = .int .i64 acc ∧ acc = leftK (ks.take k)) (fun _ i => ks.length - (intOf i).toNat)
    case atStart => exact ⟨0, 0, Nat.zero_le _, rfl, rfl, rfl⟩
    case round =>
      obtain ⟨k, acc, hk, rfl, rfl, ha⟩ := hrel
      by_cases hlt : k < ks.length
      · have hba := kit_acc HK.out k hl
        rw [← ha] at hba
        have HA := Lib.hid ha
        clear ha
        obtain ⟨b, off, rfl, hbl, hc⟩ := h1 (by omega)
        obtain ⟨Aj, cj, hcell, hso, -⟩ := hc k hlt
        have hlj := len_le_total ks k hlt
        have HT := Lib.hid (fun j => tick_acc HK.out k hlt hl j)
        have HS := Lib.hid (leftK_succ ks k hlt)
        have HR := Lib.hid (kit_states HK.out _ (List.getElem_mem hlt))
        clear hc
        generalize ks[k] = os at *
        go_wp2
        go_loop [3, 5] (fun t i => ∃ (j : Nat) (a2 : Int), j ≤ os.length ∧ i = .int .i64 j ∧ t = .int .i64 (acc + a2) ∧ a2 = leftT (os.take j)) (fun _ i => os.length - (intOf i).toNat)
        case atStart => exact ⟨0, 0, Nat.zero_le _, rfl, by simp, rfl⟩
        case round =>
          obtain ⟨j, a2, hj, rfl, rfl, ha2⟩ := hrel
          have hb2 := HT.out j
          rw [← ha2] at hb2
          by_cases hlt2 : j < os.length
          · have HA2 := Lib.hid ha2
            clear ha2
            obtain ⟨b', off', rfl, hbl', hc'⟩ := hso.at_ (by omega)
            obtain ⟨hck1, hck2⟩ := hc' j hlt2
            have hst := HR.out os[j] (List.getElem_mem hlt2)
            have HS2 := Lib.hid (leftT_succ os j hlt2)
            by_cases h3 : os[j].2 < 3
            · have hmax : max (3 - os[j].2) 0 = 3 - os[j].2 := by omega
              go_wp2
              go_round
              case rel => exact ⟨j + 1, a2 + (3 - os[j].2), by omega, by go_num, by congr 1; omega, by rw [HS2.out, ← HA2.out, leftO, if_pos h3]⟩
              case measure => simp [intOf]; omega
            · have hmax : max (3 - os[j].2) 0 = 0 := by omega
              go_wp2
              go_round
              case rel => exact ⟨j + 1, a2, by omega, by go_num, by first | rfl | (congr 1; omega), by rw [HS2.out, ← HA2.out, leftO, if_neg h3]; omega⟩
              case measure => simp [intOf]; omega
          · obtain rfl : j = os.length := by omega
            rw [List.take_length] at ha2
            have HA2 := Lib.hid ha2
            clear ha2
            go_wp2
            go_round
            case rel => exact ⟨k + 1, acc + a2, by omega, by go_num, rfl, by rw [HS.out, ← HA.out, ← HA2.out]⟩
            case measure => simp [intOf]; omega
      · obtain rfl : k = ks.length := by omega
        rw [List.take_length] at ha
        have HA := Lib.hid ha
        clear ha
        go_wp2
        go_ret
        exact ⟨ret_int (by rw [HV.out, HA.out]), b1⟩
end Go.Proofs.YthbledeghanffaaDoor
