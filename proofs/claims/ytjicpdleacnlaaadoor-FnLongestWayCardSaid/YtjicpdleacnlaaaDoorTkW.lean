/- FnLongestWay: the law's walk. -/
import Derived.Test.YtjicpdleacnlaaaDoorTkM
import Derived.Test.YtjicpdleacnlaaaDoorTask8
import Derived.Deep.RegionHeld3
import Derived.Lib.MinMax
set_option linter.unusedVariables false
set_option linter.unusedSimpArgs false
namespace Go.Proofs.YtjicpdleacnlaaaDoor
open Go.ChangeShapes Go.WideShapes Go.ChangeAt Go.RowKit

set_option maxRecDepth 20000 in
set_option maxHeartbeats 1500000 in
theorem walk_fnLongestWay (w : World) (A : Option Addr) (c : Nat) (xs : List Int) (h : RV w w.heap.size A (bts xs)) (hc : xs.length ≤ c) (hm : c ≤ maxLen) (hb : ∀ x ∈ xs, 0 ≤ x ∧ x ≤ 255) :
    Calls Tryd.prog 12 #[.slice A xs.length c] w fun e w' => e = .returned (.bool true) ∧ Below w.heap.size w w' := by
  unfold maxLen at hm
  by_cases hl : xs.length ≤ 1048576
  · have HD := Lib.hid (drawLongestWay_any A c xs w h hc hl hb)
    clear hb h
    have hd8 : decide ((1048576 : Int) < (xs.length : Int)) = false := decide_eq_false (by omega)
    go_enter Tryd.func12, Tryd.ntmps12
    go_wp2_with fail
    refine HD.out.mono ?_
    rintro e w1 ⟨v, ts, rfl, o, ⟨hl8, hl100⟩, bel⟩
    obtain ⟨A1, c1, rfl, hcl, hcm⟩ := o.form
    have hr1 := o.reads
    clear o HD hd8
    go_wp2_with fail
    refine (impl_longestWay A1 c1 ts _ hr1 (by omega)).mono ?_
    rintro e w2 ⟨v2, rfl, o2, b2⟩
    obtain ⟨A2, c2, rfl, hr2, -⟩ := o2.form
    replace hr1 := hr1.step b2
    replace bel := below_step bel b2
    have HLL := Lib.hid (wayF_len ts)
    clear b2 o2
    go_wp2_with fail
    refine (spec_longestWay A1 c1 ts _ hr1 (by omega)).mono ?_
    rintro e w3 ⟨v3, rfl, o3, b3⟩
    obtain ⟨A3, c3, rfl, hr3, -⟩ := o3.form
    replace hr1 := hr1.step b3
    replace hr2 := RV.step hr2 b3
    replace bel := below_step bel b3
    clear b3 o3
    go_wp2_with fail
    refine (sameInts_e A2 A3 c2 c3 (wayF ts) _ hr2 hr3 (by have := HLL.out; omega)).mono ?_
    rintro e w4 ⟨rfl, b4⟩
    replace hr1 := hr1.step b4
    replace hr2 := RV.step hr2 b4
    replace bel := below_step bel b4
    clear b4 hr3
    cases hs : tasksB ts
    · have hx := wayF_no hs
      have hp := tasks_nil_pos hs
      have hz1 : ((ts.length : Int) == 0) = false := by rw [beq_eq_false_iff_ne]; omega
      rw [hx]
      clear hx hr2
      go_wp2_with fail
      refine (impl_tasksValid A1 c1 ts _ hr1 (by omega)).mono ?_
      rintro e w5 ⟨rfl, b5⟩
      rw [hs]
      replace bel := below_step bel b5
      clear hs hr1 b5
      go_wp2_with fail
      refine (alive_any _).mono ?_
      rintro e w99 ⟨rfl, b99⟩
      go_wp2
      go_ret
      exact ⟨rfl, below_step bel b99⟩
    · by_cases hp : 0 < ts.length
      · obtain ⟨a, hat, he, hwk⟩ := wayF_ok hs hp
        have HW := Lib.hid hwk
        have HEY := Lib.hid (earlyF_yes hs)
        have HLY := Lib.hid (lateF_yes hs)
        have HLK := Lib.hid (lateK_length ts ts.length)
        have HEL := Lib.hid (early_length ts ts.length)
        have HSA := Lib.hid (spW_all hwk he)
        have HSP := Lib.hid (fun a => task_span hs a)
        have HSB := Lib.hid (fun k => spW_bound hs (wayF ts) k)
        have HAL := Lib.hid (fun k hk => after_len hs k hk)
        have h7 := tasks_len hs
        have hwp := hwk.pos
        obtain ⟨L, hL⟩ : ∃ L, wayF ts = L := ⟨_, rfl⟩
        rw [hL] at hr2 HLL HW HSA HSB hwp ⊢
        have hl8 := HLL.out
        have hz1 : ((L.length : Int) == 0) = false := by rw [beq_eq_false_iff_ne]; omega
        clear hs he hwk hL
        go_wp2_with fail
        refine (impl_startsEarly A1 c1 ts _ hr1 (by omega)).mono ?_
        rintro e w6 ⟨v6, rfl, o6, b6⟩
        rw [HEY.out] at o6
        obtain ⟨A6, c6, rfl, hr6, -⟩ := o6.form
        rw [HEL.out]
        replace hr1 := hr1.step b6
        replace hr2 := RV.step hr2 b6
        replace bel := below_step bel b6
        clear b6 o6 HEY
        go_wp2_with fail
        refine (impl_startsLate A1 c1 ts _ hr1 (by omega)).mono ?_
        rintro e w7 ⟨v7, rfl, o7, b7⟩
        rw [HLY.out] at o7
        obtain ⟨A7, c7, rfl, hr7, -⟩ := o7.form
        rw [HLK.out]
        replace hr1 := hr1.step b7
        replace hr2 := RV.step hr2 b7
        replace hr6 := RV.step hr6 b7
        replace bel := below_step bel b7
        clear b7 o7 HLY
        go_wp2
        go_loopw [7, 8] (fun s i wr => ∃ (k : Nat), k ≤ L.length ∧ i = .int .i64 k ∧ s = .int .i64 (spW ts L k) ∧ Below w7.heap.size w7 wr) (fun _ i _ => L.length - (intOf i).toNat)
        case atStart => exact ⟨0, Nat.zero_le _, rfl, rfl, Below.refl _ _⟩
        case round =>
          obtain ⟨k, hk, rfl, rfl, hB⟩ := hrel
          by_cases hlt : k < L.length
          · obtain ⟨i1, i2, i3⟩ := HW.out.at_ k hlt
            obtain ⟨m, hm⟩ : ∃ m : Nat, at0 L k = m := ⟨(at0 L k).toNat, by omega⟩
            have hmn : m < ts.length := by omega
            obtain ⟨b2, off2, rfl, hbl2, hc2⟩ := IS.at0_ (RV.below hr2 hB) (by omega)
            have e2 := hc2 k hlt
            obtain ⟨b, off, rfl, hbl, hcc⟩ := (hr1.below hB).atT (by omega)
            obtain ⟨e1, Aj, cj, e1b, hso⟩ := hcc m hmn
            obtain ⟨b6, off6, rfl, hbl6, hc6⟩ := IS.at0_ (RV.below hr6 hB) (by rw [HEL.out]; omega)
            have e6 := hc6 m (by rw [HEL.out]; omega)
            obtain ⟨b7, off7, rfl, hbl7, hc7⟩ := IS.at0_ (RV.below hr7 hB) (by rw [HLK.out]; omega)
            have e7 := hc7 m (by rw [HLK.out]; omega)
            have hsp := HSP.out m
            have hsb := HSB.out k
            have hal := HAL.out m hmn
            have HM := Lib.hid hm
            rw [hm, Int.toNat_natCast] at i3
            rw [hm] at e2
            rw [← i3] at e7
            have HSS : Hid (spW ts L (k + 1) = spW ts L k + (tat ts m).1) := Lib.hid (by rw [spW_succ, hm, Int.toNat_natCast])
            have HNX := Lib.hid (fun j (hj : j + 1 = k) => HW.out.next j (by omega))
            clear hcc hc6 hc7 i1 i2 i3 hm
            generalize spW ts L k = s at *
            generalize (tat ts m).1 = y at *
            generalize at0 (early ts ts.length) m = z at *
            have hwp2 : IntKind.i64.wrap (s + y) = s + y := by rw [IntKind.wrap_i64]; omega
            cases k with
            | zero =>
              have e20 : wr.cell? ⟨b2, off2, none⟩ = some (.int .i64 m) := e2
              have hL0 : (0 : Int) < (L.length : Int) := by omega
              clear hc2 e2
              go_wp2_with fail
              go_quiet (fail)
              go_wp2
              go_roundw
              case rel => first | exact ⟨0 + 1, by omega, by go_num, by rw [HSS.out], below_drewN (below_drewN hB _) _⟩ | exact ⟨0 + 1, by omega, by go_num, by rw [HSS.out], below_drewN hB _⟩
              case measure => (simp [intOf]) <;> omega
            | succ j =>
              have e3 := hc2 j (by omega)
              have HHB := Lib.hid (has_mem (by have := (HNX.out j rfl).1; rw [HM.out, Int.toNat_natCast] at this; exact this))
              clear hc2
              generalize at0 L j = p at *
              have hwp3 : IntKind.i64.wrap (j : Int) = (j : Int) := by rw [IntKind.wrap_i64]; omega
              have hj0 : (0 : Int) < (j : Int) + 1 := by omega
              have hj00 : (0 : Int) ≤ (j : Int) + 1 := by omega
              have hj1 : (j : Int) + 1 < (L.length : Int) := by omega
              have hj2 : (j : Int) < (L.length : Int) := by omega
              have hquiet : ∀ n, Calls Tryd.prog 47 #[.slice Aj (tat ts m).2.length cj, .int .i64 p] (wr.drewN n) fun e w'' => e = .returned (.bool true) ∧ ∃ q, w'' = wr.drewN q := fun n => by
                have hx := hasInt_any Aj cj (tat ts m).2 p (wr.drewN n) _ (RV.below hso (below_drewN (Below.refl _ _) n)) (by omega)
                rw [HHB.out] at hx
                exact hx.mono fun e w' ⟨h1, h2⟩ => ⟨h1, n, h2.symm⟩
              have HQ := Lib.hid hquiet
              clear hquiet hso
              generalize (tat ts m).2 = zs at *
              go_wp2_with fail
              go_quiet ((go_at_call 47; exact HQ.out _))
              go_wp2
              go_roundw
              case rel => first | exact ⟨j + 1 + 1, by omega, by go_num, by rw [HSS.out], below_drewN (below_drewN hB _) _⟩ | exact ⟨j + 1 + 1, by omega, by go_num, by rw [HSS.out], below_drewN hB _⟩
              case measure => (simp [intOf]) <;> omega
          · obtain rfl : k = L.length := by omega
            have HC := Lib.hid (impl_tasksEnd A1 c1 ts wr ((hr1.below hB).more hB.size) (by omega))
            have HB9 := Lib.hid (bel.trans (hB.mono bel.size))
            rw [HSA.out]
            go_wp2_with fail
            refine HC.out.mono ?_
            rintro e w9 ⟨rfl, b9⟩
            have HB10 := Lib.hid (below_step HB9.out b9)
            go_wp2
            go_ret
            first | exact ⟨rfl, HB10.out⟩ | exact ⟨ret_bool (by simp), HB10.out⟩
      · have hx : ts = [] := List.eq_nil_of_length_eq_zero (by omega)
        subst hx
        have hw : wayF [] = [] := wayF_nil rfl
        rw [hw]
        clear hw hr2 hr1 hs
        go_wp2_with fail
        refine (alive_any _).mono ?_
        rintro e w99 ⟨rfl, b99⟩
        go_wp2
        go_ret
        exact ⟨rfl, below_step bel b99⟩
  · go_enter Tryd.func12, Tryd.ntmps12
    go_wp2
    go_ret
    exact ⟨rfl, Below.refl _ _⟩
end Go.Proofs.YtjicpdleacnlaaaDoor
