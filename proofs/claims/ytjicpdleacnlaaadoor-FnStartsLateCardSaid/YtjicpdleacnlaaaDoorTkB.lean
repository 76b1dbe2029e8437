/- FnStartsLate: the law's walk. -/
import Derived.Test.YtjicpdleacnlaaaDoorTkM
import Derived.Test.YtjicpdleacnlaaaDoorTask8
import Derived.Deep.RegionHeld3
import Derived.Lib.MinMax
set_option linter.unusedVariables false
set_option linter.unusedSimpArgs false
namespace Go.Proofs.YtjicpdleacnlaaaDoor
open Go.ChangeShapes Go.WideShapes Go.ChangeAt Go.RowKit

set_option maxRecDepth 20000 in
set_option maxHeartbeats 1500000 in
theorem walk_fnStartsLate (w : World) (A : Option Addr) (c : Nat) (xs : List Int) (h : RV w w.heap.size A (bts xs)) (hc : xs.length ≤ c) (hm : c ≤ maxLen) (hb : ∀ x ∈ xs, 0 ≤ x ∧ x ≤ 255) :
    Calls Tryd.prog 10 #[.slice A xs.length c] w fun e w' => e = .returned (.bool true) ∧ Below w.heap.size w w' := by
  unfold maxLen at hm
  by_cases hl : xs.length ≤ 1048576
  · have HD := Lib.hid (drawStartsLate_any A c xs w h hc hl hb)
    clear hb h
    have hd8 : decide ((1048576 : Int) < (xs.length : Int)) = false := decide_eq_false (by omega)
    go_enter Tryd.func10, Tryd.ntmps10
    go_wp2_with fail
    refine HD.out.mono ?_
    rintro e w1 ⟨v, ts, rfl, o, ⟨hl8, hl100⟩, bel⟩
    obtain ⟨A1, c1, rfl, hcl, hcm⟩ := o.form
    have hr1 := o.reads
    clear o HD hd8
    go_wp2_with fail
    refine (impl_startsLate A1 c1 ts _ hr1 (by omega)).mono ?_
    rintro e w2 ⟨v2, rfl, o2, b2⟩
    obtain ⟨A2, c2, rfl, hr2, -⟩ := o2.form
    replace hr1 := hr1.step b2
    replace bel := below_step bel b2
    have HLL := Lib.hid (lateF_len ts (by omega))
    clear b2 o2
    go_wp2_with fail
    refine (spec_startsLate A1 c1 ts _ hr1 (by omega)).mono ?_
    rintro e w3 ⟨v3, rfl, o3, b3⟩
    obtain ⟨A3, c3, rfl, hr3, -⟩ := o3.form
    replace hr1 := hr1.step b3
    replace hr2 := RV.step hr2 b3
    replace bel := below_step bel b3
    clear b3 o3
    go_wp2_with fail
    refine (sameInts_e A2 A3 c2 c3 (lateF ts) _ hr2 hr3 HLL.out).mono ?_
    rintro e w4 ⟨rfl, b4⟩
    replace hr1 := hr1.step b4
    replace hr2 := RV.step hr2 b4
    replace bel := below_step bel b4
    clear b4 hr3
    go_wp2_with fail
    refine (spec_tasksValid A1 c1 ts _ _ hr1 (by omega)).mono ?_
    rintro e w5 ⟨rfl, hq⟩
    have b5 : Below w4.heap.size w4 w5 := by obtain ⟨q, rfl⟩ := hq; exact below_n q
    replace hr1 := hr1.step b5
    replace hr2 := RV.step hr2 b5
    replace bel := below_step bel b5
    clear b5 hq
    cases hs : tasksB ts
    · have hx := lateF_no hs
      rw [hx]
      clear hx hs hr1 hr2
      go_wp2_with fail
      refine (alive_any _).mono ?_
      rintro e w99 ⟨rfl, b99⟩
      go_wp2
      go_ret
      exact ⟨rfl, below_step bel b99⟩
    · have hx := lateF_yes hs
      rw [hx] at hr2 HLL ⊢
      have hx2 := Lib.hid (earlyF_yes hs)
      have HLK := Lib.hid (lateK_length ts ts.length)
      have HEL := Lib.hid (early_length ts ts.length)
      have HOK := Lib.hid (late_starts hs)
      have HGE := Lib.hid (fun a ha => late_ge_early hs a ha)
      have HSM := Lib.hid (fun hp => late_some hs hp)
      clear hx hs
      rw [HLK.out]
      go_wp2_with fail
      refine (impl_startsEarly A1 c1 ts _ hr1 (by omega)).mono ?_
      rintro e w6 ⟨v6, rfl, o6, b6⟩
      rw [hx2.out] at o6
      obtain ⟨A6, c6, rfl, hr6, -⟩ := o6.form
      rw [HEL.out]
      replace hr1 := hr1.step b6
      replace hr2 := RV.step hr2 b6
      replace bel := below_step bel b6
      clear b6 o6 hx2
      go_wp2
      go_loopw [6, 7] (fun s i wr => ∃ (k : Nat) (sb : Bool), k ≤ ts.length ∧ i = .int .i64 k ∧ s = .bool sb ∧ Hid (sb = true ∨ (0 < ts.length ∧ ∀ k', k' < k → at0 (lateK ts ts.length) k' ≠ at0 (early ts ts.length) k')) ∧ Below w6.heap.size w6 wr) (fun _ i _ => ts.length - (intOf i).toNat)
      case atStart => exact ⟨0, _, Nat.zero_le _, rfl, rfl, Lib.hid (by by_cases hp : 0 < ts.length; exact .inr ⟨hp, fun k hk => by omega⟩; exact .inl (by simp; exact List.eq_nil_of_length_eq_zero (by omega))), Below.refl _ _⟩
      case round =>
        obtain ⟨k, sb, hk, rfl, rfl, HS, hB⟩ := hrel
        by_cases hlt : k < ts.length
        · obtain ⟨b2, off2, rfl, hbl2, hc2⟩ := IS.at0_ (RV.below hr2 hB) (by rw [HLK.out]; omega)
          have e2 := hc2 k (by rw [HLK.out]; omega)
          obtain ⟨b6, off6, rfl, hbl6, hc6⟩ := IS.at0_ (RV.below hr6 hB) (by rw [HEL.out]; omega)
          have e6 := hc6 k (by rw [HEL.out]; omega)
          have hge := HGE.out k hlt
          have HX : Hid (at0 (lateK ts ts.length) k = at0 (lateK ts ts.length) k ∧ at0 (early ts ts.length) k = at0 (early ts ts.length) k) := Lib.hid ⟨rfl, rfl⟩
          have HN : Hid (at0 (lateK ts ts.length) k ≠ at0 (early ts ts.length) k → ∀ p, Hid (p = true ∨ (0 < ts.length ∧ ∀ k', k' < k → at0 (lateK ts ts.length) k' ≠ at0 (early ts ts.length) k')) → Hid (p = true ∨ (0 < ts.length ∧ ∀ k', k' < k + 1 → at0 (lateK ts ts.length) k' ≠ at0 (early ts ts.length) k'))) := Lib.hid (fun hne p hp => Lib.hid (hp.out.elim .inl (fun h => .inr ⟨h.1, fun k' hk' => by
            by_cases e : k' = k
            · subst e; exact hne
            · exact h.2 k' (by omega)⟩)))
          clear hc2 hc6
          generalize at0 (lateK ts ts.length) k = x at *
          generalize at0 (early ts ts.length) k = y at *
          have hd : decide (x < y) = false := decide_eq_false (by omega)
          cases sb
          · cases hxy : (x == y)
            · have hne : x ≠ y := by rw [beq_eq_false_iff_ne] at hxy; exact hxy
              have HS2 := HN.out hne _ HS
              clear hne
              go_wp2_with fail
              go_quiet (fail)
              go_wp2_with fail
              go_quiet (fail)
              go_wp2
              go_roundw
              case rel => first | exact ⟨k + 1, false, by omega, by go_num, rfl, HS2, below_drewN (below_drewN hB _) _⟩ | exact ⟨k + 1, false, by omega, by go_num, rfl, HS2, below_drewN hB _⟩
              case measure => (simp [intOf]) <;> omega
            · go_wp2_with fail
              go_quiet (fail)
              go_wp2_with fail
              go_quiet (fail)
              go_wp2
              go_roundw
              case rel => first | exact ⟨k + 1, true, by omega, by go_num, rfl, Lib.hid (.inl rfl), below_drewN (below_drewN hB _) _⟩ | exact ⟨k + 1, true, by omega, by go_num, rfl, Lib.hid (.inl rfl), below_drewN hB _⟩
              case measure => (simp [intOf]) <;> omega
          · go_wp2_with fail
            go_quiet (fail)
            go_wp2_with fail
            go_quiet (fail)
            go_wp2
            go_roundw
            case rel => first | exact ⟨k + 1, true, by omega, by go_num, rfl, Lib.hid (.inl rfl), below_drewN (below_drewN hB _) _⟩ | exact ⟨k + 1, true, by omega, by go_num, rfl, Lib.hid (.inl rfl), below_drewN hB _⟩
            case measure => (simp [intOf]) <;> omega
        · obtain rfl : k = ts.length := by omega
          have hsb : sb = true := by
            rcases HS.out with h | ⟨hp, h⟩
            · exact h
            · obtain ⟨a, ha, e⟩ := HSM.out hp
              exact absurd e (h a ha)
          subst hsb
          have hcall := impl_startsOk A1 A2 c1 c2 ts (lateK ts ts.length) wr ((hr1.below hB).more hB.size) (RV.more (RV.below hr2 hB) hB.size) (by omega) (by rw [HLK.out]; omega)
          rw [HLK.out, HOK.out] at hcall
          have HC := Lib.hid hcall
          clear hcall
          go_wp2_with fail
          refine HC.out.mono ?_
          rintro e w9 ⟨rfl, b9⟩
          have HB9 := Lib.hid (below_step (bel.trans (hB.mono bel.size)) b9)
          go_wp2
          go_ret
          exact ⟨rfl, HB9.out⟩
  · go_enter Tryd.func10, Tryd.ntmps10
    go_wp2
    go_ret
    exact ⟨rfl, Below.refl _ _⟩
end Go.Proofs.YtjicpdleacnlaaaDoor
