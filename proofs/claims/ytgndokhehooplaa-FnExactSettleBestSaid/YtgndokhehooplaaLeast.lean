/- SettleLeast: what the program and the reference compute. -/
import Derived.Test.YtgndokhehooplaaOnes
set_option linter.unusedVariables false
set_option linter.unusedSimpArgs false
namespace Go.Proofs.Ytgndokhehooplaa
open Go.ChangeShapes Go.WideShapes Go.ChangeAt Go.RowKit

theorem tabL_bnd (ow : List Int) : ∀ k, TBnd (tabL ow k)
  | 0 => fun s => by cases s with | zero => simp [tabL, at0] | succ s => (simp [tabL, at0]; omega)
  | k + 1 => by
    have ih := tabL_bnd ow k
    rw [tabL]
    by_cases h0 : sumM ow (k + 1) = 0
    · rw [if_pos h0]
      have hp := bestM_part ow (tabL ow k) (k + 1) (k + 1) (Nat.le_refl _)
      have h1 := hp.pos
      have h2 := hp.le ih (by omega)
      exact tbnd_push ih (by omega) (by rw [tabL_length]; exact h2)
    · rw [if_neg h0]
      exact tbnd_push ih (by omega) (by omega)
theorem mostF_bnd (ow : List Int) : -1 ≤ mostF ow ∧ mostF ow ≤ 1000 := by
  cases hv : owedB ow
  · rw [mostF_no hv]; omega
  · rw [mostF_yes hv]
    have h1 := tabL_bnd (nz ow) (fullS ow) (fullS ow)
    have h2 := full_lt ow
    have h3 := nz_len ow
    have h4 := (owed_partsM hv).1
    have h5 := (pow_small (show (nz ow).length ≤ 7 by omega)).2
    omega
def leastF (ow : List Int) : Int := if owedB ow then ((nz ow).length : Int) - mostF ow else -1
theorem leastF_no {ow : List Int} (h : owedB ow = false) : leastF ow = -1 := by simp [leastF, h]
theorem leastF_yes {ow : List Int} (h : owedB ow = true) : leastF ow = ((nz ow).length : Int) - mostF ow := by simp [leastF, h]
set_option maxRecDepth 20000 in
set_option maxHeartbeats 4000000 in
theorem impl_settleLeast (A : Option Addr) (c : Nat) (ow : List Int) (w : World) (h : IS w w.heap.size A ow) (hl : ow.length ≤ 1048576) :
    Calls Try.prog 14 #[.slice A ow.length c] w fun e w' => e = .returned (.int .i64 (leastF ow)) ∧ Below w.heap.size w w' := by
  cases hv : owedB ow
  · have HE := Lib.hid (leastF_no hv)
    go_enter Try.func14, Try.ntmps14
    go_wp2_with (go_at_call 34; refine (impl_owedValid A c ow _ _ h hl).mono ?_; rintro e w1 ⟨rfl, rfl⟩)
    go_ret
    exact ⟨ret_int HE.out.symm, Below.refl _ _⟩
  · have HE := Lib.hid (leastF_yes hv)
    obtain ⟨h7, -⟩ := owed_partsM hv
    have hcl := concR_lt ow
    have hp7 := (pow_small h7).2
    have HP := Lib.hid (pop_conc 7 ow h7)
    have hnl := nz_len ow
    obtain ⟨m1, m2⟩ := mostF_bnd ow
    obtain ⟨cc, hcc⟩ : ∃ cc, concR ow = cc := ⟨_, rfl⟩
    rw [hcc] at hcl HP
    have HCC := Lib.hid hcc
    have hc128 : cc < 128 := by omega
    clear hcc hcl hp7
    go_enter Try.func14, Try.ntmps14
    go_wp2_with (go_at_call 34; refine (impl_owedValid A c ow _ _ h hl).mono ?_; rintro e w1 ⟨rfl, rfl⟩)
    clear hv
    refine (concerned_any A c ow _ _ h h7).mono ?_
    rintro e w' ⟨rfl, rfl⟩
    rw [HCC.out]
    go_wp2_with fail
    refine (ones_any cc _ hc128).mono ?_
    rintro e w' ⟨rfl, rfl⟩
    rw [HP.out]
    go_wp2_with fail
    refine (impl_groupsMost A c ow _ h hl).mono ?_
    rintro e w2 ⟨rfl, b2⟩
    generalize mostF ow = m at *
    generalize (nz ow).length = n at *
    go_wp2
    go_ret
    exact ⟨ret_int (by rw [HE.out]), b2⟩
set_option maxRecDepth 20000 in
set_option maxHeartbeats 4000000 in
theorem spec_settleLeast (A : Option Addr) (c : Nat) (ow : List Int) (w : World) (h : IS w w.heap.size A ow) (hl : ow.length ≤ 1048576) :
    Calls Try.prog 13 #[.slice A ow.length c] w fun e w' => e = .returned (.int .i64 (leastF ow)) ∧ Below w.heap.size w w' := by
  cases hv : owedB ow
  · have HE := Lib.hid (leastF_no hv)
    go_enter Try.func13, Try.ntmps13
    go_wp2_with (go_at_call 32; refine (spec_owedValid A c ow _ _ h hl).mono ?_; rintro e w1 ⟨rfl, rfl⟩)
    go_ret
    exact ⟨ret_int HE.out.symm, Below.refl _ _⟩
  · have HE := Lib.hid (leastF_yes hv)
    obtain ⟨h7, -⟩ := owed_partsM hv
    obtain ⟨m1, m2⟩ := mostF_bnd ow
    go_enter Try.func13, Try.ntmps13
    go_wp2_with (go_at_call 32; refine (spec_owedValid A c ow _ _ h hl).mono ?_; rintro e w1 ⟨rfl, rfl⟩)
    clear hv
    go_loop [3, 4] (fun n i => ∃ k : Nat, k ≤ ow.length ∧ i = .int .i64 k ∧ n = .int .i64 ((nz (ow.take k)).length : Int)) (fun _ i => ow.length - (intOf i).toNat)
    case atStart => exact ⟨0, Nat.zero_le _, rfl, by simp [nz]⟩
    case round =>
      obtain ⟨k, hk, rfl, rfl⟩ := hrel
      by_cases hlt : k < ow.length
      · obtain ⟨b, off, rfl, hbl, hc⟩ := IS.at0_ h (by omega)
        have e1 := hc k hlt
        have HS := Lib.hid (nz_take_succ ow k hlt)
        have hnl := nz_len (ow.take k)
        have hnl2 : (ow.take k).length ≤ 7 := by rw [List.length_take]; omega
        clear hc
        generalize at0 ow k = x at *
        by_cases hx : x = 0
        · subst hx
          have HR := Lib.hid (show (nz (ow.take (k + 1))).length = (nz (ow.take k)).length by rw [HS.out]; simp)
          generalize (nz (ow.take k)).length = n at *
          go_wp2
          go_round
          case rel => exact ⟨k + 1, by omega, by go_num, by rw [HR.out]⟩
          case measure => (simp [intOf]) <;> omega
        · have HR := Lib.hid (show (nz (ow.take (k + 1))).length = (nz (ow.take k)).length + 1 by rw [HS.out, if_neg hx, List.length_append]; rfl)
          have hxb : (x == 0) = false := by rw [beq_eq_false_iff_ne]; exact hx
          have hn7 : (nz (ow.take k)).length ≤ 7 := by omega
          generalize (nz (ow.take k)).length = n at *
          go_wp2
          go_round
          case rel => exact ⟨k + 1, by omega, by go_num, by first | (rw [HR.out]; go_num) | rw [HR.out]⟩
          case measure => (simp [intOf]) <;> omega
      · obtain rfl : k = ow.length := by omega
        have hnl := nz_len ow
        rw [List.take_length]
        go_wp2_with fail
        refine (spec_groupsMost A c ow _ h hl).mono ?_
        rintro e w2 ⟨rfl, b2⟩
        generalize mostF ow = m at *
        generalize (nz ow).length = n at *
        go_wp2
        go_ret
        exact ⟨ret_int (by rw [HE.out]), b2⟩
end Go.Proofs.Ytgndokhehooplaa
