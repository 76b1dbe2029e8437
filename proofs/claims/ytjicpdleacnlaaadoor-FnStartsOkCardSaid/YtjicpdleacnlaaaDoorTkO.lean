/- FnStartsOk: the law's walk. -/
import Derived.Test.YtjicpdleacnlaaaDoorTkM
import Derived.Test.YtjicpdleacnlaaaDoorTask8
import Derived.Test.YtjicpdleacnlaaaDoorDrawSO
import Derived.Deep.RegionHeld3
import Derived.Lib.MinMax
set_option linter.unusedVariables false
set_option linter.unusedSimpArgs false
namespace Go.Proofs.YtjicpdleacnlaaaDoor
open Go.ChangeShapes Go.WideShapes Go.ChangeAt Go.RowKit

set_option maxRecDepth 20000 in
set_option maxHeartbeats 1500000 in
theorem walk_fnStartsOk (w : World) (A : Option Addr) (c : Nat) (xs : List Int) (h : RV w w.heap.size A (bts xs)) (hc : xs.length ≤ c) (hm : c ≤ maxLen) (hb : ∀ x ∈ xs, 0 ≤ x ∧ x ≤ 255) :
    Calls Tryd.prog 11 #[.slice A xs.length c] w fun e w' => e = .returned (.bool true) ∧ Below w.heap.size w w' := by
  unfold maxLen at hm
  by_cases hl : xs.length ≤ 1048576
  · have HD := Lib.hid (drawStartsOk_any A c xs w h hc hl hb)
    clear hb h
    have hd8 : decide ((1048576 : Int) < (xs.length : Int)) = false := decide_eq_false (by omega)
    go_enter Tryd.func11, Tryd.ntmps11
    go_wp2_with fail
    refine HD.out.mono ?_
    rintro e w1 ⟨A1, c1, ts, v2, xs, rfl, o, o2, ⟨hl8, hl100⟩, hl20, hxb, bel⟩
    obtain ⟨A2, c2, rfl, hr2, -⟩ := o2.form
    have hr1 := o.reads
    have HXB := Lib.hid hxb
    clear o o2 HD hd8 hxb
    go_wp2_with fail
    refine (impl_startsOk A1 A2 c1 c2 ts xs _ hr1 hr2 (by omega) (by omega)).mono ?_
    rintro e w2 ⟨rfl, b2⟩
    replace hr1 := hr1.step b2
    replace hr2 := RV.step hr2 b2
    replace bel := below_step bel b2
    clear b2
    go_wp2_with fail
    refine (spec_startsOk A1 A2 c1 c2 ts xs _ _ _ hr1 hr2 (by omega) (by omega) HXB.out).mono ?_
    rintro e w3 ⟨rfl, hq⟩
    have b3 : Below w2.heap.size w2 w3 := by obtain ⟨q, rfl⟩ := hq; exact below_n q
    replace hr1 := hr1.step b3
    replace hr2 := RV.step hr2 b3
    replace bel := below_step bel b3
    clear b3 hq
    cases hs : startsB ts xs
    · clear hs hr1 hr2
      go_wp2_with fail
      refine (alive_any _).mono ?_
      rintro e w99 ⟨rfl, b99⟩
      go_wp2
      go_ret
      exact ⟨rfl, below_step bel b99⟩
    · obtain ⟨ht, hle, hrg, -⟩ := st_parts hs
      have HEY := Lib.hid (earlyF_yes ht)
      have HLY := Lib.hid (lateF_yes ht)
      have HLK := Lib.hid (lateK_length ts ts.length)
      have HEL := Lib.hid (early_length ts ts.length)
      have HXL := Lib.hid hle
      have HRG := Lib.hid hrg
      have HGE := Lib.hid (fun a ha => early_least hs a ha)
      have HLM := Lib.hid (fun he a ha => late_most hs he a ha)
      have HSP := Lib.hid (fun a => task_span ht a)
      have h7 := tasks_len ht
      rw [hle]
      clear hs ht hle hrg
      go_wp2_with fail
      refine (impl_startsEarly A1 c1 ts _ hr1 (by omega)).mono ?_
      rintro e w6 ⟨v6, rfl, o6, b6⟩
      rw [HEY.out] at o6
      obtain ⟨A6, c6, rfl, hr6, -⟩ := o6.form
      rw [HEL.out]
      replace hr1 := hr1.step b6
      replace hr2 := RV.step hr2 b6
      replace bel := below_step bel b6
      clear b6 o6 HEY
      go_wp2_with fail
      refine (impl_startsLate A1 c1 ts _ hr1 (by omega)).mono ?_
      rintro e w7 ⟨v7, rfl, o7, b7⟩
      rw [HLY.out] at o7
      obtain ⟨A7, c7, rfl, hr7, -⟩ := o7.form
      rw [HLK.out]
      replace hr1 := hr1.step b7
      replace hr2 := RV.step hr2 b7
      replace hr6 := RV.step hr6 b7
      replace bel := below_step bel b7
      clear b7 o7 HLY
      go_wp2_with fail
      refine (impl_tasksEnd A1 c1 ts _ hr1 (by omega)).mono ?_
      rintro e w8 ⟨rfl, b8⟩
      replace hr1 := hr1.step b8
      replace hr2 := RV.step hr2 b8
      replace hr6 := RV.step hr6 b8
      replace hr7 := RV.step hr7 b8
      replace bel := below_step bel b8
      clear b8
      obtain ⟨E, hE⟩ : ∃ E, endF ts = E := ⟨_, rfl⟩
      rw [hE] at HLM ⊢
      clear hE
      go_wp2
      go_loopw [9, 10] (fun s i wr => ∃ (k : Nat) (sb : Bool), k ≤ ts.length ∧ i = .int .i64 k ∧ s = .bool sb ∧ Hid (sb = true → ∀ a, a < k → at0 xs a + (tat ts a).1 ≤ E) ∧ Below w8.heap.size w8 wr) (fun _ i _ => ts.length - (intOf i).toNat)
      case atStart => exact ⟨0, true, Nat.zero_le _, rfl, rfl, Lib.hid (fun _ k hk => by omega), Below.refl _ _⟩
      case round =>
        obtain ⟨k, sb, hk, rfl, rfl, HS, hB⟩ := hrel
        by_cases hlt : k < ts.length
        · obtain ⟨b2, off2, rfl, hbl2, hc2⟩ := IS.at0_ (RV.below hr2 hB) (by rw [HXL.out]; omega)
          have e2 := hc2 k (by rw [HXL.out]; omega)
          obtain ⟨b, off, rfl, hbl, hcc⟩ := (hr1.below hB).atT (by omega)
          obtain ⟨e1, -⟩ := hcc k hlt
          have hb1 := HRG.out k (by rw [HXL.out]; omega)
          have hb2 := HSP.out k
          have HN : Hid (at0 xs k + (tat ts k).1 ≤ E → ∀ p, Hid (p = true → ∀ a, a < k → at0 xs a + (tat ts a).1 ≤ E) → Hid (p = true → ∀ a, a < k + 1 → at0 xs a + (tat ts a).1 ≤ E)) := Lib.hid (fun hne p hp => Lib.hid (fun hp1 a ha => by
            by_cases e : a = k
            · subst e; exact hne
            · exact hp.out hp1 a (by omega)))
          clear hc2 hcc
          generalize at0 xs k = x at *
          generalize (tat ts k).1 = y at *
          have hwp : IntKind.i64.wrap (x + y) = x + y := by rw [IntKind.wrap_i64]; omega
          cases sb
          · go_wp2_with fail
            go_quiet (fail)
            go_wp2
            go_roundw
            case rel => exact ⟨k + 1, false, by omega, by go_num, rfl, Lib.hid (fun h => by simp at h), below_drewN hB _⟩
            case measure => (simp [intOf]) <;> omega
          · by_cases hxy : x + y ≤ E
            · have HS2 := HN.out hxy _ HS
              go_wp2_with fail
              go_quiet (fail)
              go_wp2
              go_roundw
              case rel => exact ⟨k + 1, true, by omega, by go_num, rfl, Lib.hid (fun _ => HS2.out (by first | rfl | trivial)), below_drewN hB _⟩
              case measure => (simp [intOf]) <;> omega
            · have hd : decide (x + y ≤ E) = false := decide_eq_false hxy
              go_wp2_with fail
              go_quiet (fail)
              go_wp2
              go_roundw
              case rel => exact ⟨k + 1, false, by omega, by go_num, rfl, Lib.hid (fun h => by simp at h), below_drewN hB _⟩
              case measure => (simp [intOf]) <;> omega
        · obtain rfl : k = ts.length := by omega
          have HLT : Hid (sb = true → ∀ a, a < ts.length → at0 xs a ≤ at0 (lateK ts ts.length) a) := Lib.hid (fun h => HLM.out (HS.out h))
          have HW5 := Lib.hid (bel.trans (hB.mono bel.size))
          have s2 := RV.below hr2 hB
          have s6 := RV.below hr6 hB
          have s7 := RV.below hr7 hB
          obtain ⟨w5, rfl⟩ : ∃ w5 : World, w5 = wr := ⟨_, rfl⟩
          clear hB hr2 hr6 hr7 HS HLM hr1 hk hlt
          go_wp2
          go_loopw [11] (fun i wr => ∃ (k : Nat), k ≤ ts.length ∧ i = .int .i64 k ∧ Below w8.heap.size w5 wr) (fun i _ => ts.length - (intOf i).toNat)
          case atStart => exact ⟨0, Nat.zero_le _, rfl, Below.refl _ _⟩
          case round =>
            obtain ⟨k, hk, rfl, hB⟩ := hrel
            by_cases hlt : k < ts.length
            · obtain ⟨b2, off2, rfl, hbl2, hc2⟩ := IS.at0_ (RV.below s2 hB) (by rw [HXL.out]; omega)
              have e2 := hc2 k (by rw [HXL.out]; omega)
              obtain ⟨b6, off6, rfl, hbl6, hc6⟩ := IS.at0_ (RV.below s6 hB) (by rw [HEL.out]; omega)
              have e6 := hc6 k (by rw [HEL.out]; omega)
              obtain ⟨b7, off7, rfl, hbl7, hc7⟩ := IS.at0_ (RV.below s7 hB) (by rw [HLK.out]; omega)
              have e7 := hc7 k (by rw [HLK.out]; omega)
              have i1 := HGE.out k hlt
              have HI2 := Lib.hid (fun h => HLT.out h k hlt)
              clear hc2 hc6 hc7
              generalize at0 xs k = x at *
              generalize at0 (early ts ts.length) k = y at *
              generalize at0 (lateK ts ts.length) k = z at *
              have hd : decide (x < y) = false := decide_eq_false (by omega)
              cases sb
              · go_wp2_with fail
                go_quiet (fail)
                go_wp2
                go_roundw
                case rel => exact ⟨k + 1, by omega, by go_num, below_drewN hB _⟩
                case measure => (simp [intOf]) <;> omega
              · have i2 := HI2.out rfl
                have hd2 : decide (z < x) = false := decide_eq_false (by omega)
                go_wp2_with fail
                go_quiet (fail)
                go_wp2
                go_roundw
                case rel => exact ⟨k + 1, by omega, by go_num, below_drewN hB _⟩
                case measure => (simp [intOf]) <;> omega
            · obtain rfl : k = ts.length := by omega
              go_wp2
              go_ret
              exact ⟨rfl, HW5.out.trans (hB.mono bel.size)⟩
  · go_enter Tryd.func11, Tryd.ntmps11
    go_wp2
    go_ret
    exact ⟨rfl, Below.refl _ _⟩
end Go.Proofs.YtjicpdleacnlaaaDoor
