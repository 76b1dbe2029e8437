/- FnWorkRun: the law's walk. -/
import Derived.Test.YthbledeghanffaaDoorTilSK
import Derived.Deep.RegionHeld3
set_option linter.unusedVariables false
set_option linter.unusedSimpArgs false
namespace Go.Proofs.YthbledeghanffaaDoor
open Go.ChangeShapes Go.WideShapes Go.ChangeAt Go.RowKit

theorem run_no {ks : List (List Ord)} {m : Int} (h : kitB ks = true) (hm : m < 0 ∨ 99 < m) : runF ks m = ([], 0) := by
  have : inB m 0 99 = false := inB_false.2 (by omega)
  rw [runF_no (by rw [this, Bool.and_false])]
theorem half_run {ks : List (List Ord)} (h : kitB ks = true) (m : Nat) (hm : m ≤ 99) : (runF (runF ks ((m / 2 : Nat) : Int)).1 ((m - m / 2 : Nat) : Int)).1 = (runF ks (m : Int)).1 := by
  rw [run_law h hm, run_law h (m := m / 2) (by omega)]
  dsimp only
  rw [run_law (itK_kit _ h) (by omega), ← itK_add, show m / 2 + (m - m / 2) = m by omega]
set_option maxRecDepth 20000 in
set_option maxHeartbeats 8000000 in
theorem walk_fnWorkRun (w : World) (A : Option Addr) (c : Nat) (xs : List Int) (h : RV w w.heap.size A (bts xs)) (hc : xs.length ≤ c) (hm : c ≤ maxLen) (hb : ∀ x ∈ xs, 0 ≤ x ∧ x ≤ 255) :
    Calls Tryd.prog 13 #[.slice A xs.length c] w fun e w' => e = .returned (.bool true) ∧ Below w.heap.size w w' := by
  unfold maxLen at hm
  by_cases hl : xs.length ≤ 1048576
  · have HD := Lib.hid (drawWorkRun_any A c xs w h hc hl hb)
    clear hb h
    have hd8 : decide ((1048576 : Int) < (xs.length : Int)) = false := decide_eq_false (by omega)
    go_enter Tryd.func13, Tryd.ntmps13
    go_wp2_with fail
    refine HD.out.mono ?_
    rintro e w1 ⟨v, ks, m, rfl, o, hkl, hmb, bel⟩
    obtain ⟨A1, c1, rfl, hc1, -⟩ := OK.form o
    have hr1 := OK.reads o
    clear o HD
    have hsz := runF_size ks m (by omega)
    go_wp2_with fail
    refine (impl_workRun A1 c1 ks m _ hr1 (by omega)).mono ?_
    rintro e w2 ⟨v, rfl, o, b2⟩
    have hr1 := SK.step hr1 b2
    replace bel := below_step bel b2
    obtain ⟨A2, c2, rfl, -⟩ := OK.form o
    have hr2 := OK.reads o
    clear o
    go_wp2_with fail
    refine (spec_workRun A1 c1 ks m _ hr1 (by omega)).mono ?_
    rintro e w3 ⟨v, rfl, o, b3⟩
    have hr1 := SK.step hr1 b3
    have hr2 := SK.step hr2 b3
    replace bel := below_step bel b3
    obtain ⟨A3, c3, rfl, -⟩ := OK.form o
    have hr3 := OK.reads o
    clear o
    go_wp2_with fail
    refine (sameKitchen_e A2 A3 c2 c3 _ _ hr2 hr3 hsz).mono ?_
    rintro e w4 ⟨rfl, b4⟩
    have hr1 := SK.step hr1 b4
    have hr2 := SK.step hr2 b4
    clear hr3
    replace bel := below_step bel b4
    go_wp2_with fail
    refine (spec_kitchenValid A1 c1 ks _ hr1 (by omega)).mono ?_
    rintro e w5 ⟨rfl, b5⟩
    have hr1 := SK.step hr1 b5
    have hr2 := SK.step hr2 b5
    replace bel := below_step bel b5
    cases hk : kitB ks
    · have e0 : runF ks m = ([], 0) := runF_no (by rw [hk]; rfl)
      rw [e0]
      clear hk
      go_wp2_with fail
      refine (alive_any _).mono ?_
      rintro e w6 ⟨rfl, b6⟩
      go_wp2
      go_ret
      exact ⟨rfl, below_step bel b6⟩
    · by_cases hm1 : m < 0 ∨ 99 < m
      · rw [run_no hk hm1]
        clear hk
        rcases hm1 with hm1 | hm1
        · go_wp2_with fail
          refine (alive_any _).mono ?_
          rintro e w6 ⟨rfl, b6⟩
          go_wp2
          go_ret
          exact ⟨rfl, below_step bel b6⟩
        · go_wp2_with fail
          refine (alive_any _).mono ?_
          rintro e w6 ⟨rfl, b6⟩
          go_wp2
          go_ret
          exact ⟨rfl, below_step bel b6⟩
      · obtain ⟨n, rfl⟩ : ∃ n : Nat, m = n := ⟨m.toNat, by omega⟩
        have hn99 : n ≤ 99 := by omega
        have HK := Lib.hid hk
        have hbd := leftK_le hk
        have HW := Lib.hid (workLeft_yes hk)
        have HR := Lib.hid (run_law hk hn99)
        have HE := Lib.hid (show runF ks 99 = (itK 99 ks, min 99 (leftK ks).toNat) from run_law hk (m := 99) (by omega))
        have HED := Lib.hid (it_done hk (n := 99) (by omega))
        have HET := Lib.hid (it_taken 99 hk)
        have HEK := Lib.hid (itK_kit 99 hk)
        have HH := Lib.hid (half_run hk n hn99)
        have hszh := runF_size ks ((n / 2 : Nat) : Int) (by omega)
        have hd1 : decide ((n : Int) < 0) = false := decide_eq_false (by omega)
        have hd2 : decide ((99 : Int) < (n : Int)) = false := decide_eq_false (by omega)
        have hd3 : decide (99 < n) = false := decide_eq_false (by omega)
        have hkm : ks.length ≤ 600 := by omega
        have hsze := runF_size ks 99 (by omega)
        have HR2N := Lib.hid (show (runF ks (n : Int)).2 = min n (leftK ks).toNat by rw [HR.out])
        clear hk hm1
        go_wp2_with fail
        refine (impl_workLeft A1 c1 ks _ hr1 (by omega)).mono ?_
        rintro e w6 ⟨rfl, b6⟩
        have hr1 := SK.step hr1 b6
        have hr2 := SK.step hr2 b6
        replace bel := below_step bel b6
        rw [HW.out]
        go_wp2_with fail
        refine (impl_workRun A1 c1 ks 99 _ hr1 (by omega)).mono ?_
        rintro e w7 ⟨v, rfl, o, b7⟩
        have hr1 := SK.step hr1 b7
        have hr2 := SK.step hr2 b7
        replace bel := below_step bel b7
        rw [HE.out] at o hsze ⊢
        dsimp only at o hsze ⊢
        obtain ⟨A4, c4, rfl, -⟩ := OK.form o
        have hr4 := OK.reads o
        clear o
        rw [HR2N.out]
        obtain ⟨hel, hek⟩ := HET.out
        have HEL := Lib.hid hek
        generalize itK 99 ks = ke at *
        obtain ⟨L, hL⟩ : ∃ L : Nat, leftK ks = L := ⟨(leftK ks).toNat, by omega⟩
        rw [hL] at hbd ⊢
        have hLn : ((L : Int)).toNat = L := by omega
        rw [hLn]
        have hmin1 : min 99 L = L := by omega
        rw [hmin1]
        have hmin2 : ((min n L : Nat) : Int) = min (n : Int) (L : Int) := by omega
        rw [hmin2, hel]
        have hz1 : (min (n : Int) (L : Int) == min (n : Int) (L : Int)) = true := by simp
        have hz2 : ((L : Int) == (L : Int)) = true := by simp
        clear hek
        go_wp2
        go_loopw [12] (fun i wr => ∃ k : Nat, k ≤ ks.length ∧ i = .int .i64 k ∧ Below w7.heap.size w7 wr) (fun i _ => ks.length - (intOf i).toNat)
        case atStart => exact ⟨0, Nat.zero_le _, rfl, Below.refl _ _⟩
        case round =>
          obtain ⟨k, hk, rfl, hW⟩ := hrel
          by_cases hlt : k < ks.length
          · obtain ⟨b, off, rfl, hbl, hcc⟩ := (SK.step hr4 hW) (by omega)
            obtain ⟨Aj, cj, hcell, hso, hcj, hcm⟩ := hcc k (by omega)
            obtain ⟨b', off', rfl, hbl', hcc'⟩ := (SK.step hr1 hW) (by omega)
            obtain ⟨Aj', cj', hcell', hso', hcj', hcm'⟩ := hcc' k hlt
            have hlj := len_le_total ks k hlt
            obtain ⟨hl2, htk⟩ := HEL.out k (by omega)
            have hdn := List.all_eq_true.1 HED.out _ (List.getElem_mem (show k < ke.length by omega))
            have HTK : Hid (∀ j, j < (ks[k]).length → (((ke[k]'(by omega)).getD j (0, 0)).2 = 4 ↔ ((ks[k]).getD j (0, 0)).2 = 4)) := Lib.hid (fun j hj => by
              have h1 : j < (ke[k]'(by omega)).length := by omega
              have h2 : j < (ks[k]).length := by omega
              have := htk j h1
              simpa [h1, h2] using this)
            have HDN := Lib.hid hdn
            clear hcc hcc' htk hdn
            generalize ke[k]'(by omega) = oe at *
            generalize ks[k] = os at *
            rw [hl2] at hcell
            have hs := hW.size
            have hx := impl_ticketDone Aj cj oe wr.drew (show SO wr.drew wr.drew.heap.size Aj oe from hso) (by omega)
            rw [HDN.out, hl2] at hx
            have HX := Lib.hid hx
            have HSO := Lib.hid hso
            have HSO' := Lib.hid hso'
            clear hx hso hso'
            go_wp2_with fail
            go_region_held3 (fun w' => w'.cell? ⟨b, off + k, none⟩ = some (.slice Aj os.length cj) ∧ w'.cell? ⟨b', off' + k, none⟩ = some (.slice Aj' os.length cj') ∧ Below wr.heap.size wr w')
              (first | exact ⟨hcell, hcell', Below.refl _ _⟩ | exact ⟨hcell, hcell', (Below.refl wr.heap.size wr).drew⟩ | exact ⟨k1, k2, B8.out⟩ | go_keep)
              (first | (go_at_call 20; refine HX.out.mono ?_; rintro e w8 ⟨rfl, b8⟩; have k1 : w8.cell? ⟨b, off + k, none⟩ = some (.slice Aj os.length cj) := (b8.cell (p := ⟨b, off + k, none⟩) hbl).trans hcell; have k2 : w8.cell? ⟨b', off' + k, none⟩ = some (.slice Aj' os.length cj') := (b8.cell (p := ⟨b', off' + k, none⟩) hbl').trans hcell'; have B8 := Lib.hid (below_step ((Below.refl wr.heap.size wr).drew) b8)))
            all_goals go_wp2
            have bW8 : Below wr.heap.size wr w8 := by assumption
            have hW2 := below_step hW bW8
            have hs8 := bW8.size
            have hso8 : SO w8 w8.heap.size Aj oe := RV.step HSO.out bW8
            have hso8' : SO w8 w8.heap.size Aj' os := RV.step HSO'.out bW8
            have hc8 : w8.cell? ⟨b, off + k, none⟩ = some (.slice Aj os.length cj) := by assumption
            have hc8' : w8.cell? ⟨b', off' + k, none⟩ = some (.slice Aj' os.length cj') := by assumption
            go_loopw [13] (fun i wx => ∃ j q : Nat, j ≤ os.length ∧ i = .int .i64 j ∧ wx = w8.drewN q) (fun i _ => os.length - (intOf i).toNat)
            case atStart => exact ⟨0, 0, Nat.zero_le _, rfl, rfl⟩
            case round =>
              obtain ⟨j, q, hj, rfl, rfl⟩ := hrel
              by_cases hlt2 : j < os.length
              · obtain ⟨b5, off5, rfl, hb5, hc5⟩ := SO.at_ hso8 (by omega)
                obtain ⟨b6, off6, rfl, hb6, hc6⟩ := SO.at_ hso8' (by omega)
                obtain ⟨-, f1⟩ := hc5 j (by omega)
                obtain ⟨-, f2⟩ := hc6 j hlt2
                have ht := HTK.out j hlt2
                have hje : j < oe.length := by omega
                rw [show oe.getD j (0, 0) = oe[j] by simp [hje], show os.getD j (0, 0) = os[j] by simp [hlt2]] at ht
                clear hc5 hc6
                generalize (oe[j]'hje).2 = s1 at *
                generalize (os[j]).2 = s2 at *
                have hbb : ((s1 == 4) == (s2 == 4)) = true := by rw [beq_iff_eq, Bool.eq_iff_iff, beq_iff_eq, beq_iff_eq]; exact ht
                go_wp2_with fail
                go_quiet (fail)
                go_wp2
                go_roundw
                case rel => exact ⟨j + 1, _, by omega, by go_num, by first | rfl | exact World.drewN_drewN _ _ _⟩
                case measure => simp [intOf]; omega
              · obtain rfl : j = os.length := by omega
                go_wp2
                go_roundw
                case rel => exact ⟨k + 1, by omega, by go_num, below_drewN hW2 _⟩
                case measure => simp [intOf]; omega
          · obtain rfl : k = ks.length := by omega
            have hr1' := SK.step hr1 hW
            have hr2' := SK.step hr2 hW
            replace bel := below_step bel hW
            clear hr1 hr2 hr4
            obtain ⟨h2, hh2⟩ : ∃ h2 : Nat, n / 2 = h2 := ⟨_, rfl⟩
            have hq : (n : Int).tdiv 2 = (h2 : Int) := by rw [← hh2]; rfl
            have hq2 : (n : Int) / 2 = (h2 : Int) := by rw [← hh2]; rfl
            obtain ⟨r2, hr2'⟩ : ∃ r2 : Nat, n - h2 = r2 := ⟨_, rfl⟩
            have hq3 : (n : Int) - (h2 : Int) = (r2 : Int) := by omega
            rw [hh2, hr2'] at HH
            rw [hh2] at hszh
            clear hh2 hr2'
            go_wp2_with fail
            refine (impl_workRun A1 c1 ks (h2 : Int) _ hr1' (by omega)).mono ?_
            rintro e w8 ⟨v, rfl, o, b8⟩
            have hr2' := SK.step hr2' b8
            replace bel := below_step bel b8
            obtain ⟨A5, c5, rfl, -⟩ := OK.form o
            have hr5 := OK.reads o
            clear o
            go_wp2_with fail
            have hx := impl_workRun A5 c5 _ (r2 : Int) _ hr5 hszh
            refine hx.mono ?_
            rintro e w9 ⟨v, rfl, o, b9⟩
            rw [HH.out] at o
            have hr2' := SK.step hr2' b9
            replace bel := below_step bel b9
            obtain ⟨A6, c6, rfl, -⟩ := OK.form o
            have hr6 := OK.reads o
            clear o
            go_wp2_with fail
            refine (sameKitchen_e A6 A2 c6 c2 _ _ hr6 hr2' hsz).mono ?_
            rintro e w10 ⟨rfl, b10⟩
            go_wp2
            go_ret
            exact ⟨rfl, below_step bel b10⟩
  · go_enter Tryd.func13, Tryd.ntmps13
    go_wp2
    go_ret
    exact ⟨rfl, Below.refl _ _⟩
end Go.Proofs.YthbledeghanffaaDoor
