/- FnWorkStep: the law's walk. -/
import Derived.Test.YthbledeghanffaaDoorTilSK
set_option linter.unusedVariables false
set_option linter.unusedSimpArgs false
namespace Go.Proofs.YthbledeghanffaaDoor
open Go.ChangeShapes Go.WideShapes Go.ChangeAt Go.RowKit

set_option maxRecDepth 20000 in
set_option maxHeartbeats 8000000 in
theorem walk_fnWorkStep (w : World) (A : Option Addr) (c : Nat) (xs : List Int) (h : RV w w.heap.size A (bts xs)) (hc : xs.length ≤ c) (hm : c ≤ maxLen) (hb : ∀ x ∈ xs, 0 ≤ x ∧ x ≤ 255) :
    Calls Tryd.prog 12 #[.slice A xs.length c] w fun e w' => e = .returned (.bool true) ∧ Below w.heap.size w w' := by
  unfold maxLen at hm
  by_cases hl : xs.length ≤ 1048576
  · have HD := Lib.hid (drawWorkStep_any A c xs w h hc hl hb)
    clear hb h
    have hd8 : decide ((1048576 : Int) < (xs.length : Int)) = false := decide_eq_false (by omega)
    go_enter Tryd.func12, Tryd.ntmps12
    go_wp2_with fail
    refine HD.out.mono ?_
    rintro e w1 ⟨v, ks, rfl, o, hkl, bel⟩
    obtain ⟨A1, c1, rfl, hc1, -⟩ := OK.form o
    have hr1 := OK.reads o
    clear o HD
    have hsz := stepF_size ks (by omega)
    go_wp2_with fail
    refine (impl_workStep A1 c1 ks _ hr1 (by omega)).mono ?_
    rintro e w2 ⟨v, rfl, o, b2⟩
    have hr1 := SK.step hr1 b2
    replace bel := below_step bel b2
    obtain ⟨A2, c2, rfl, -⟩ := OK.form o
    have hr2 := OK.reads o
    clear o
    go_wp2_with fail
    refine (spec_workStep A1 c1 ks _ hr1 (by omega)).mono ?_
    rintro e w3 ⟨v, rfl, o, b3⟩
    have hr1 := SK.step hr1 b3
    have hr2 := SK.step hr2 b3
    replace bel := below_step bel b3
    obtain ⟨A3, c3, rfl, -⟩ := OK.form o
    have hr3 := OK.reads o
    clear o
    go_wp2_with fail
    refine (sameKitchen_e A2 A3 c2 c3 _ _ hr2 hr3 hsz).mono ?_
    rintro e w4 ⟨rfl, b4⟩
    have hr1 := SK.step hr1 b4
    have hr2 := SK.step hr2 b4
    clear hr3
    replace bel := below_step bel b4
    have hbb : ((stepF ks).2 == (stepF ks).2) = true := by simp
    go_wp2_with fail
    refine (spec_kitchenValid A1 c1 ks _ hr1 (by omega)).mono ?_
    rintro e w5 ⟨rfl, b5⟩
    have hr1 := SK.step hr1 b5
    have hr2 := SK.step hr2 b5
    replace bel := below_step bel b5
    clear hbb
    cases hk : kitB ks
    · rw [stepF_no hk]
      clear hk
      go_wp2_with fail
      refine (alive_any _).mono ?_
      rintro e w6 ⟨rfl, b6⟩
      go_wp2
      go_ret
      exact ⟨rfl, below_step bel b6⟩
    · obtain ⟨h1, h2, h3, h4⟩ := step_law hk
      have HK1 := Lib.hid h1
      have H2 := Lib.hid h2
      have H3 := Lib.hid h3
      have H4 := Lib.hid h4
      have HK := Lib.hid hk
      have hkm : ks.length ≤ 600 := by omega
      have hbd := leftK_le hk
      clear h1 h2 h3 h4 hk
      generalize stepF ks = p at *
      obtain ⟨x, ok⟩ := p
      dsimp only at hr2 hsz HK1 H2 H3 H4 ⊢
      go_wp2
      go_loopw [8, 9] (fun d i wr => ∃ (k : Nat) (D : Bool), k ≤ ks.length ∧ d = .bool D ∧ i = .int .i64 k ∧ Hid (D = (ks.take k).all doneB) ∧ Below w5.heap.size w5 wr) (fun _ i _ => ks.length - (intOf i).toNat)
      case atStart => exact ⟨0, true, Nat.zero_le _, rfl, rfl, rfl, Below.refl _ _⟩
      case round =>
        obtain ⟨k, D, hk, rfl, rfl, HD, hW⟩ := hrel
        by_cases hlt : k < ks.length
        · obtain ⟨b, off, rfl, hbl, hcc⟩ := (SK.step hr1 hW) (by omega)
          obtain ⟨Aj, cj, hcell, hso, hcj, hcm⟩ := hcc k hlt
          have hlj := len_le_total ks k hlt
          have HD2 : Hid ((D && doneB ks[k]) = (ks.take (k + 1)).all doneB) := Lib.hid (by rw [all_take_succ _ ks k hlt, HD.out])
          clear hcc HD
          generalize ks[k] = os at *
          cases D
          · go_wp2
            go_roundw
            case rel => exact ⟨k + 1, false, by omega, rfl, by go_num, HD2, hW⟩
            case measure => simp [intOf]; omega
          · go_wp2_with fail
            refine (impl_ticketDone Aj cj os _ hso (by omega)).mono ?_
            rintro e w5 ⟨rfl, b6⟩
            go_wp2
            go_roundw
            case rel => exact ⟨k + 1, _, by omega, rfl, by go_num, HD2, below_step hW b6⟩
            case measure => simp [intOf]; omega
        · obtain rfl : k = ks.length := by omega
          have hD := HD.out
          rw [List.take_length] at hD
          have hr1' := SK.step hr1 hW
          have hr2' := SK.step hr2 hW
          replace bel := below_step bel hW
          clear hr1 hr2
          rw [← hD] at H2
          clear hD
          cases ok
          · have e1 : D = true := by
              have h := H2.out
              cases D
              · exact absurd h (by decide)
              · rfl
            have e2 : x = ks := H4.out rfl
            subst e1 e2
            go_wp2_with fail
            refine (sameKitchen_e A2 A1 c2 c1 _ _ hr2' hr1' hsz).mono ?_
            rintro e w6 ⟨rfl, b6⟩
            have hr2' := SK.step hr2' b6
            replace bel := below_step bel b6
            go_wp2_with fail
            have hx := impl_kitchenValid A2 c2 _ _ hr2' hsz
            rw [HK1.out] at hx
            refine hx.mono ?_
            rintro e w7 ⟨rfl, b7⟩
            go_wp2
            go_ret
            exact ⟨rfl, below_step bel b7⟩
          · have e1 : D = false := by
              have h := H2.out
              cases D
              · rfl
              · exact absurd h (by decide)
            have e2 := H3.out rfl
            have HW1 := Lib.hid (workLeft_yes HK1.out)
            have HW2 := Lib.hid (workLeft_yes HK.out)
            subst e1
            go_wp2_with fail
            refine (impl_workLeft A2 c2 x _ hr2' hsz).mono ?_
            rintro e w6 ⟨rfl, b6⟩
            have hr1' := SK.step hr1' b6
            have hr2' := SK.step hr2' b6
            replace bel := below_step bel b6
            go_wp2_with fail
            refine (impl_workLeft A1 c1 ks _ hr1' (by omega)).mono ?_
            rintro e w7 ⟨rfl, b7⟩
            have hr2' := SK.step hr2' b7
            replace bel := below_step bel b7
            rw [HW1.out, HW2.out, e2]
            generalize leftK ks = L at *
            clear e2
            go_wp2_with fail
            have hx := impl_kitchenValid A2 c2 _ _ hr2' hsz
            rw [HK1.out] at hx
            refine hx.mono ?_
            rintro e w8 ⟨rfl, b8⟩
            go_wp2
            go_ret
            exact ⟨rfl, below_step bel b8⟩
  · go_enter Tryd.func12, Tryd.ntmps12
    go_wp2
    go_ret
    exact ⟨rfl, Below.refl _ _⟩
end Go.Proofs.YthbledeghanffaaDoor
