/- WorkLeft of the program; NextFire. -/
import Derived.Test.YthbledeghanffaaDoorKit3
set_option linter.unusedVariables false
set_option linter.unusedSimpArgs false
namespace Go.Proofs.YthbledeghanffaaDoor
open Go.ChangeShapes Go.WideShapes Go.ChangeAt Go.RowKit

set_option maxHeartbeats 4000000 in
theorem impl_workLeft (A : Option Addr) (c : Nat) (ks : List (List Ord)) (w : World) (h : SK w w.heap.size A ks) (hl : ks.length + total ks ≤ 1048576) :
    Calls Tryd.prog 33 #[.slice A ks.length c] w fun e w' => e = .returned (.int .i64 (workLeftF ks)) ∧ Below w.heap.size w w' := by
  cases hv : kitB ks
  · have HV := Lib.hid (workLeft_no hv)
    go_enter Tryd.func33, Tryd.ntmps33
    go_wp2_with (go_at_call 27; refine (impl_kitchenValid _ _ _ _ h hl).mono ?_; rintro e w1 ⟨rfl, b1⟩)
    go_ret
    exact ⟨ret_int HV.out.symm, b1⟩
  · have HV := Lib.hid (workLeft_yes hv)
    have HK := Lib.hid hv
    go_enter Tryd.func33, Tryd.ntmps33
    go_wp2_with fail
    refine (impl_kitchenValid _ _ _ _ h hl).mono ?_
    rintro e w1 ⟨rfl, b1⟩
    go_wp2
    go_loopw [3, 5, 13] (fun t _ i wr => ∃ (k : Nat) (acc : Int), k ≤ ks.length ∧ i = .int .i64 k ∧ t = .int .i64 acc ∧ acc = leftK (ks.take k) ∧ Below w.heap.size w wr) (fun _ _ i _ => ks.length - (intOf i).toNat)
    case atStart => exact ⟨0, 0, Nat.zero_le _, rfl, rfl, rfl, b1⟩
    case round =>
      obtain ⟨k, acc, hk, rfl, rfl, ha, hW⟩ := hrel
      by_cases hlt : k < ks.length
      · have hba := kit_acc HK.out k hl
        rw [← ha] at hba
        have HA := Lib.hid ha
        clear ha
        obtain ⟨b, off, rfl, hbl, hc⟩ := (h.below hW) (by omega)
        obtain ⟨Aj, cj, hcell, hso, -⟩ := hc k hlt
        have hlj := len_le_total ks k hlt
        have HT := Lib.hid (fun j => tick_acc HK.out k hlt hl j)
        have HS := Lib.hid (leftK_succ ks k hlt)
        have HR := Lib.hid (kit_states HK.out _ (List.getElem_mem hlt))
        have HF := Lib.hid (fin_of_ticket (kit_ticket HK.out k hlt))
        clear hc
        generalize ks[k] = os at *
        have hso' := hso
        obtain ⟨wo, rfl⟩ : ∃ wo : World, wo = wr := ⟨_, rfl⟩
        go_wp2
        go_loopw [3, 19] (fun t i wr => ∃ (j : Nat) (a2 : Int), j ≤ os.length ∧ i = .int .i64 j ∧ t = .int .i64 (acc + a2) ∧ a2 = leftT (os.take j) ∧ Below w.heap.size w wr ∧ Below w.heap.size wo wr) (fun _ i _ => os.length - (intOf i).toNat)
        case atStart => exact ⟨0, 0, Nat.zero_le _, rfl, by simp, rfl, hW, Below.refl _ _⟩
        case round =>
          obtain ⟨j, a2, hj, rfl, rfl, ha2, hW2, hWo⟩ := hrel
          have hb2 := HT.out j
          rw [← ha2] at hb2
          have HWO := Lib.hid hWo
          by_cases hlt2 : j < os.length
          · have HA2 := Lib.hid ha2
            clear ha2
            obtain ⟨b', off', rfl, hbl', hc'⟩ := (hso.below hWo).at_ (by omega)
            clear hWo
            obtain ⟨hck1, hck2⟩ := hc' j hlt2
            have hst := HR.out os[j] (List.getElem_mem hlt2)
            have HS2 := Lib.hid (leftT_succ os j hlt2)
            have hf : finB (os[j].1, os[j].2) = !decide (os[j].2 < 3) := HF.out os[j] (List.getElem_mem hlt2)
            by_cases h3 : os[j].2 < 3
            · have hf2 : finB (os[j].1, os[j].2) = false := by rw [hf]; simp [h3]
              clear hf
              go_wp2_with (go_at_call 61; refine (finished_any _ _ _).mono ?_; rintro e w' ⟨rfl, rfl⟩)
              go_roundw
              case rel => exact ⟨j + 1, a2 + (3 - os[j].2), by omega, by go_num, by congr 1; omega, by rw [HS2.out, ← HA2.out, leftO, if_pos h3], below_al (below_al hW2 _) _, ((HWO.out.alloc hW2.size _).alloc (below_al hW2 _).size _)⟩
              case measure => simp [intOf]; omega
            · have hf2 : finB (os[j].1, os[j].2) = true := by rw [hf]; simp [h3]
              clear hf
              go_wp2_with (go_at_call 61; refine (finished_any _ _ _).mono ?_; rintro e w' ⟨rfl, rfl⟩)
              go_roundw
              case rel => exact ⟨j + 1, a2, by omega, by go_num, by first | rfl | (congr 1; omega), by rw [HS2.out, ← HA2.out, leftO, if_neg (by omega)]; omega, below_al (below_al hW2 _) _, ((HWO.out.alloc hW2.size _).alloc (below_al hW2 _).size _)⟩
              case measure => simp [intOf]; omega
          · obtain rfl : j = os.length := by omega
            rw [List.take_length] at ha2
            have HA2 := Lib.hid ha2
            clear ha2 hWo
            go_wp2
            go_roundw
            case rel => exact ⟨k + 1, acc + a2, by omega, by go_num, rfl, by rw [HS.out, ← HA.out, ← HA2.out], hW2⟩
            case measure => simp [intOf]; omega
      · obtain rfl : k = ks.length := by omega
        rw [List.take_length] at ha
        have HA := Lib.hid ha
        clear ha
        go_wp2
        go_ret
        exact ⟨ret_int (by rw [HV.out, HA.out]), hW⟩

/-! ### NextFire -/
def fireL : Nat → List (List Ord) → Int × Int
  | _, [] => (-1, -1)
  | i, os :: t => match mayF os with
    | [] => fireL (i + 1) t
    | x :: _ => ((i : Int), x)
def fireF (ks : List (List Ord)) : Int × Int := if kitB ks = true then fireL 0 ks else (-1, -1)
theorem fireF_no {ks : List (List Ord)} (h : kitB ks = false) : fireF ks = (-1, -1) := by simp [fireF, h]
theorem fireF_yes {ks : List (List Ord)} (h : kitB ks = true) : fireF ks = fireL 0 ks := by simp [fireF, h]
theorem fireL_skip (ks : List (List Ord)) (k : Nat) (h : k < ks.length) (hm : (mayF ks[k]).length = 0) : fireL k (ks.drop k) = fireL (k + 1) (ks.drop (k + 1)) := by
  rw [List.drop_eq_getElem_cons h, fireL, List.eq_nil_of_length_eq_zero hm]
theorem fireL_hit (ks : List (List Ord)) (k : Nat) (h : k < ks.length) (hm : 0 < (mayF ks[k]).length) : fireL k (ks.drop k) = ((k : Int), (mayF ks[k])[0]) := by
  obtain ⟨x, t, hx⟩ := List.exists_cons_of_length_pos hm
  have h0 : (mayF ks[k])[0] = x := by simp [hx]
  rw [h0, List.drop_eq_getElem_cons h, fireL, hx]
theorem fireL_end (ks : List (List Ord)) : fireL ks.length (ks.drop ks.length) = (-1, -1) := by simp [fireL]
theorem ret_two {p : Int × Int} {a b : Int} (h : p = (a, b)) : Ending.returned (.tuple #[.int .i64 a, .int .i64 b]) = .returned (.tuple #[.int .i64 p.1, .int .i64 p.2]) := by rw [h]

set_option maxHeartbeats 4000000 in
theorem impl_nextFire (A : Option Addr) (c : Nat) (ks : List (List Ord)) (w : World) (h : SK w w.heap.size A ks) (hl : ks.length + total ks ≤ 1048576) :
    Calls Tryd.prog 42 #[.slice A ks.length c] w fun e w' => e = .returned (.tuple #[.int .i64 (fireF ks).1, .int .i64 (fireF ks).2]) ∧ Below w.heap.size w w' := by
  cases hv : kitB ks
  · have HV := Lib.hid (fireF_no hv)
    go_enter Tryd.func42, Tryd.ntmps42
    go_wp2_with (go_at_call 27; refine (impl_kitchenValid _ _ _ _ h hl).mono ?_; rintro e w1 ⟨rfl, b1⟩)
    go_ret2
    exact ⟨ret_two HV.out, b1⟩
  · have HV := Lib.hid (fireF_yes hv)
    go_enter Tryd.func42, Tryd.ntmps42
    go_wp2_with fail
    refine (impl_kitchenValid _ _ _ _ h hl).mono ?_
    rintro e w1 ⟨rfl, b1⟩
    go_wp2
    go_loopw [4, 5, 6, 12] (fun _ _ _ i wr => ∃ k : Nat, k ≤ ks.length ∧ i = .int .i64 k ∧ Hid (fireL 0 ks = fireL k (ks.drop k)) ∧ Below w.heap.size w wr) (fun _ _ _ i _ => ks.length - (intOf i).toNat)
    case atStart => exact ⟨0, Nat.zero_le _, rfl, rfl, b1⟩
    case round =>
      obtain ⟨k, hk, rfl, HA, hW⟩ := hrel
      by_cases hlt : k < ks.length
      · obtain ⟨b, off, rfl, hbl, hc⟩ := (h.below hW) (by omega)
        obtain ⟨Aj, cj, hcell, hso, -⟩ := hc k hlt
        have hlj := len_le_total ks k hlt
        clear hc
        go_wp2_with fail
        refine (impl_ticketMay _ _ _ _ (hso.more hW.size) (by omega)).mono ?_
        rintro e w2 ⟨v2, rfl, o2, b2⟩
        have hW2 := below_step hW b2
        obtain ⟨A2, c2, rfl, hr, -⟩ := o2.form
        have hmb := mayF_len ks[k] (by omega)
        by_cases hm : (mayF ks[k]).length = 0
        · have HS := Lib.hid (fireL_skip ks k hlt hm)
          rw [hm]
          clear hm hr o2 hmb
          go_wp2
          go_roundw
          case rel => exact ⟨k + 1, by omega, by go_num, HA.out.trans HS.out, hW2⟩
          case measure => simp [intOf]; omega
        · have hmp : 0 < (mayF ks[k]).length := by omega
          have HS := Lib.hid (fireL_hit ks k hlt hmp)
          obtain ⟨b2, off2, rfl, -, hc2⟩ := hr.at_ hmp
          have hc3 : w2.cell? ⟨b2, off2, none⟩ = some (.int .i64 (mayF ks[k])[0]) := hc2 0 hmp
          clear hc2 o2 hr
          go_wp2_with fail
          go_quiet (fail)
          go_wp2
          go_ret2
          exact ⟨ret_two (HV.out.trans (HA.out.trans HS.out)), below_drewN hW2 _⟩
      · obtain rfl : k = ks.length := by omega
        go_wp2
        go_ret2
        exact ⟨ret_two (HV.out.trans (HA.out.trans (fireL_end ks))), hW⟩

set_option maxHeartbeats 4000000 in
theorem spec_nextFire (A : Option Addr) (c : Nat) (ks : List (List Ord)) (w : World) (h : SK w w.heap.size A ks) (hl : ks.length + total ks ≤ 1048576) :
    Calls Tryd.prog 43 #[.slice A ks.length c] w fun e w' => e = .returned (.tuple #[.int .i64 (fireF ks).1, .int .i64 (fireF ks).2]) ∧ Below w.heap.size w w' := by
  cases hv : kitB ks
  · have HV := Lib.hid (fireF_no hv)
    by_cases hz : 0 < ks.length
    · go_enter Tryd.func43, Tryd.ntmps43
      go_wp2
      refine wp_loop_rounds 1 ?_
      rw [rounds_succ]
      go_wp2_with (go_at_call 28; refine (spec_kitchenValid _ _ _ _ h hl).mono ?_; rintro e w1 ⟨rfl, b1⟩)
      go_ret2
      exact ⟨ret_two HV.out, b1⟩
    · have hx : ks = [] := List.eq_nil_of_length_eq_zero (by omega)
      subst hx
      simp [kitB] at hv
  · have HV := Lib.hid (fireF_yes hv)
    go_enter Tryd.func43, Tryd.ntmps43
    go_wp2
    go_loopw [4, 5] (fun i _ wr => ∃ k : Nat, k ≤ ks.length ∧ i = .int .i64 k ∧ Hid (fireL 0 ks = fireL k (ks.drop k)) ∧ Below w.heap.size w wr) (fun i _ _ => ks.length - (intOf i).toNat)
    case atStart => exact ⟨0, Nat.zero_le _, rfl, rfl, Below.refl _ _⟩
    case round =>
      obtain ⟨k, hk, rfl, HA, hW0⟩ := hrel
      by_cases hlt : k < ks.length
      · have hs := (h.below hW0).more hW0.size
        go_wp2_with fail
        refine (spec_kitchenValid _ _ _ _ hs hl).mono ?_
        rintro e w1 ⟨rfl, b1⟩
        have hW := below_step hW0 b1
        obtain ⟨b, off, rfl, hbl, hc⟩ := (h.below hW) (by omega)
        obtain ⟨Aj, cj, hcell, hso, -⟩ := hc k hlt
        have hlj := len_le_total ks k hlt
        clear hc
        go_wp2_with fail
        refine (spec_ticketMay _ _ _ _ (hso.more hW.size) (by omega)).mono ?_
        rintro e w2 ⟨v2, rfl, o2, b2⟩
        have hW2 := below_step hW b2
        obtain ⟨A2, c2, rfl, hr, -⟩ := o2.form
        have hmb := mayF_len ks[k] (by omega)
        by_cases hm : (mayF ks[k]).length = 0
        · have HS := Lib.hid (fireL_skip ks k hlt hm)
          rw [hm]
          clear hm hr o2 hmb
          go_wp2
          go_roundw
          case rel => exact ⟨k + 1, by omega, by go_num, HA.out.trans HS.out, hW2⟩
          case measure => simp [intOf]; omega
        · have hmp : 0 < (mayF ks[k]).length := by omega
          have HS := Lib.hid (fireL_hit ks k hlt hmp)
          obtain ⟨b2, off2, rfl, -, hc2⟩ := hr.at_ hmp
          have hc3 : w2.cell? ⟨b2, off2, none⟩ = some (.int .i64 (mayF ks[k])[0]) := hc2 0 hmp
          clear hc2 o2 hr
          go_wp2_with fail
          go_quiet (fail)
          go_wp2
          go_ret2
          exact ⟨ret_two (HV.out.trans (HA.out.trans HS.out)), below_drewN hW2 _⟩
      · obtain rfl : k = ks.length := by omega
        go_wp2
        go_ret2
        exact ⟨ret_two (HV.out.trans (HA.out.trans (fireL_end ks))), hW0⟩
end Go.Proofs.YthbledeghanffaaDoor
