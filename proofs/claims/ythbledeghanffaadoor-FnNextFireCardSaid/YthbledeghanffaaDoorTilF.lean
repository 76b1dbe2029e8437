/- FnNextFire: the law's walk. -/
import Derived.Test.YthbledeghanffaaDoorDrawKs
import Derived.Test.YthbledeghanffaaDoorStepP
set_option linter.unusedVariables false
set_option linter.unusedSimpArgs false
namespace Go.Proofs.YthbledeghanffaaDoor
open Go.ChangeShapes Go.WideShapes Go.ChangeAt Go.RowKit

set_option maxRecDepth 20000 in
set_option maxHeartbeats 8000000 in
theorem walk_fnNextFire (w : World) (A : Option Addr) (c : Nat) (xs : List Int) (h : RV w w.heap.size A (bts xs)) (hc : xs.length ≤ c) (hm : c ≤ maxLen) (hb : ∀ x ∈ xs, 0 ≤ x ∧ x ≤ 255) :
    Calls Tryd.prog 10 #[.slice A xs.length c] w fun e w' => e = .returned (.bool true) ∧ Below w.heap.size w w' := by
  unfold maxLen at hm
  by_cases hl : xs.length ≤ 1048576
  · have HD := Lib.hid (drawNextFire_any A c xs w h hc hl hb)
    clear hb h
    have hd8 : decide ((1048576 : Int) < (xs.length : Int)) = false := decide_eq_false (by omega)
    go_enter Tryd.func10, Tryd.ntmps10
    go_wp2_with fail
    refine HD.out.mono ?_
    rintro e w1 ⟨v, ks, rfl, o, hkl, bel⟩
    obtain ⟨A1, c1, rfl, hc1, -⟩ := OK.form o
    have hr1 := OK.reads o
    clear o HD
    go_wp2_with fail
    refine (impl_nextFire A1 c1 ks _ hr1 (by omega)).mono ?_
    rintro e w2 ⟨rfl, b2⟩
    have hr1 := SK.step hr1 b2
    replace bel := below_step bel b2
    go_wp2_with fail
    refine (spec_nextFire A1 c1 ks _ hr1 (by omega)).mono ?_
    rintro e w3 ⟨rfl, b3⟩
    have hr1 := SK.step hr1 b3
    replace bel := below_step bel b3
    rcases fire_plain ks with he | ⟨a, ha, x, r, he, -, hma, hmb⟩
    · rw [he]
      clear he
      go_wp2_with fail
      refine (alive_any _).mono ?_
      rintro e w4 ⟨rfl, b4⟩
      go_wp2
      go_ret
      exact ⟨rfl, below_step bel b4⟩
    · rw [he]
      have HMA := Lib.hid hma
      have HMB := Lib.hid hmb
      have hz1 : decide ((a : Int) < 0) = false := decide_eq_false (by omega)
      have hkm : ks.length ≤ 600 := by omega
      clear he hma hmb
      go_wp2
      go_loopw [8] (fun i wr => ∃ k : Nat, k ≤ a + 1 ∧ i = .int .i64 k ∧ Below w3.heap.size w3 wr) (fun i _ => a + 1 - (intOf i).toNat)
      case atStart => exact ⟨0, Nat.zero_le _, rfl, Below.refl _ _⟩
      case round =>
        obtain ⟨k, hk, rfl, hW⟩ := hrel
        by_cases hlt : k ≤ a
        · have hkl2 : k < ks.length := by omega
          obtain ⟨b, off, rfl, hbl, hcc⟩ := (SK.step hr1 hW) (by omega)
          obtain ⟨Aj, cj, hcell, hso, -⟩ := hcc k hkl2
          have hlj := len_le_total ks k hkl2
          have HM : Hid (k < a → mayF ks[k] = []) := Lib.hid (fun h => HMB.out k hkl2 h)
          have HM2 : Hid (k = a → mayF ks[k] = x :: r) := Lib.hid (fun h => by subst h; exact HMA.out)
          clear hcc
          generalize ks[k] = os at *
          go_wp2_with fail
          refine (impl_ticketMay _ _ os _ (hso.more (by omega)) (by omega)).mono ?_
          rintro e w4 ⟨v, rfl, o, b4⟩
          have hW2 := below_step hW b4
          by_cases hka : k = a
          · subst hka
            rw [HM2.out rfl] at o
            obtain ⟨A4, c4, rfl, hr4, -⟩ := o.form
            obtain ⟨b5, off5, rfl, hb5, hcc5⟩ := hr4.at_ (by simp)
            have hc5 := hcc5 0 (by simp)
            have hz2 : decide ((k : Int) < (k : Int)) = false := decide_eq_false (by omega)
            have hlen : (x :: r).length = r.length + 1 := rfl
            rw [hlen]
            have hz3 : (((r.length + 1 : Nat) : Int) == 0) = false := by rw [beq_eq_false_iff_ne]; omega
            have hz4 : (0 : Int) < ((r.length + 1 : Nat) : Int) := by omega
            simp only [Nat.add_zero, List.getElem_cons_zero] at hc5
            clear hcc5 o
            go_wp2
            go_roundw
            case rel => exact ⟨k + 1, by omega, by go_num, hW2⟩
            case measure => (simp [intOf]) <;> omega
          · rw [HM.out (by omega)] at o
            obtain ⟨A4, c4, rfl, hr4, -⟩ := o.form
            have hz2 : decide ((k : Int) < (a : Int)) = true := decide_eq_true (by omega)
            have hz2n : k < a := by omega
            have hz3 : ((k : Int) == (a : Int)) = false := by rw [beq_eq_false_iff_ne]; omega
            clear o
            go_wp2
            go_roundw
            case rel => exact ⟨k + 1, by omega, by go_num, hW2⟩
            case measure => (simp [intOf]) <;> omega
        · obtain rfl : k = a + 1 := by omega
          go_wp2
          go_ret
          exact ⟨rfl, below_step bel hW⟩
  · go_enter Tryd.func10, Tryd.ntmps10
    go_wp2
    go_ret
    exact ⟨rfl, Below.refl _ _⟩
end Go.Proofs.YthbledeghanffaaDoor
