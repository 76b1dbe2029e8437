/- WorkStep of the reference: the walk. -/
import Derived.Test.YthbledeghanffaaDoorWork3
set_option linter.unusedVariables false
set_option linter.unusedSimpArgs false
namespace Go.Proofs.YthbledeghanffaaDoor
open Go.ChangeShapes Go.WideShapes Go.ChangeAt Go.RowKit

theorem OK.head {w : World} {lo : Nat} {A : Option Addr} {n c : Nat} {rows : List Row} (h : OK w lo (.slice A n c) rows) (hn : 0 < rows.length) : ∃ g, A = some ⟨g, 0, none⟩ ∧ lo ≤ g := by
  obtain ⟨vs, h1, h2⟩ := h
  rcases h1.2 with ⟨hv, hn0⟩ | ⟨g, cap, cur, hv, hb, _⟩
  · omega
  · injection hv with h1 _ _
    exact ⟨g, h1, hb⟩
/-- A kitchen that the call made: a ticket is replaced by one that was made since. -/
theorem OK.replace {w w1 : World} {lo g : Nat} {c : Nat} {ks : List (List Ord)} (h : OK w lo (.slice (some ⟨g, 0, none⟩) ks.length c) (rowsOf ks)) (b : Below w.heap.size w w1) (hl : lo ≤ w.heap.size) (k : Nat) (hk : k < ks.length) {v : Value} {os : List Ord} (ho : OO w1 w.heap.size v os) :
    (∃ u, w1.cell? ⟨g, k, none⟩ = some u) ∧ w1.frozen? ⟨g, k, none⟩ = false ∧ OK (w1.setCell ⟨g, k, none⟩ v) lo (.slice (some ⟨g, 0, none⟩) ks.length c) (rowsOf (ks.set k os)) := by
  obtain ⟨vs, h1, h2⟩ := h
  rw [rowsOf_length] at h1
  have h1' := own_below h1 b
  obtain ⟨ho2, hg2⟩ := h1'.stored k v
  refine ⟨own_cell h1' k (by omega), h1'.frozenAt k, vs.set k v, ?_, ?_⟩
  · rw [rowsOf_length, List.length_set]; exact ho2
  · rw [rows_set]
    refine (h2.replace b hl k ho).keep fun g' cc hg' => Below.heap_setCell _ _ _ _ ?_
    intro e
    have e' : g' = g := by first | exact e | exact e.symm
    obtain ⟨c1, t1⟩ := own_type h1' (g := g) rfl
    rw [← e', hg'] at t1
    injection t1 with t1
    injection t1 with _ t1 _
    exact types_differ t1.symm
theorem step_do {os : List Ord} {j t : Nat} (ht : ticketB os = true) (hj : j < os.length) (h2 : t ≤ 1) (h : os[j].2 = 2 - (t : Int)) : doF os j (2 - (t : Int)) = (setSt os j (3 - (t : Int)), true) := by
  rcases (show t = 0 ∨ t = 1 by omega) with e | e
  · subst e; exact do_serve ht hj h
  · subst e; exact do_cook ht hj h
theorem step_not {os : List Ord} {j t : Nat} (ht : ticketB os = true) (hj : j < os.length) (h2 : t ≤ 1) (h : os[j].2 ≠ 2 - (t : Int)) : doF os j (2 - (t : Int)) = (os, false) := by
  rcases (show t = 0 ∨ t = 1 by omega) with e | e
  · subst e; exact do_not ht hj (by rw [show (2 : Int) - ((0 : Nat) : Int) = 2 from rfl, next_two (by simpa using h)]; omega)
  · subst e; exact do_not ht hj (by rw [show (2 : Int) - ((1 : Nat) : Int) = 1 from rfl, next_one (by simpa using h)]; omega)
theorem putK_set (ks : List (List Ord)) (k j : Nat) (s : Int) (h : k < ks.length) : ks.set k (setSt ks[k] j s) = putK ks k j s := (putK_eq ks k j s h).symm

set_option maxHeartbeats 16000000 in
theorem spec_workStep (A : Option Addr) (c : Nat) (ks : List (List Ord)) (w : World) (h : SK w w.heap.size A ks) (hl : ks.length + total ks ≤ 1048576) :
    Calls Tryd.prog 48 #[.slice A ks.length c] w (RetKB w (stepF ks)) := by
  cases hv : kitB ks
  · have HV := Lib.hid (stepF_no hv)
    go_enter Tryd.func48, Tryd.ntmps48
    go_wp2_with (go_at_call 28; refine (spec_kitchenValid _ _ _ _ h hl).mono ?_; rintro e w1 ⟨rfl, b1⟩)
    go_ret2
    exact RetKB.mk HV.out ⟨[], own_empty _ _ 1 _ b1.size, Inn.nil _ _⟩ (below_al b1 _)
  · have HK := Lib.hid hv
    go_enter Tryd.func48, Tryd.ntmps48
    go_wp2_with fail
    refine (spec_kitchenValid _ _ _ _ h hl).mono ?_
    rintro e w1 ⟨rfl, b1⟩
    have h1 := (h.below b1).more b1.size
    go_wp2_with fail
    clear hv
    refine (l4Copy_any _ _ _ _ h1 hl).mono ?_
    rintro e w2 ⟨v2, rfl, o2, b2⟩
    have b3 := below_step b1 b2
    have o3 := o2.mono b1.size
    obtain ⟨A2, c2, rfl, -⟩ := o2.form
    clear o2
    go_wp2
    go_loopw [5] (fun i wr => ∃ t : Nat, t ≤ 2 ∧ i = .int .i64 (2 - (t : Int)) ∧ Hid (1 ≤ t → fk 2 0 ks = none) ∧ Hid (2 ≤ t → fk 1 0 ks = none) ∧ OK wr w.heap.size (.slice A2 ks.length c2) (rowsOf ks) ∧ Below w.heap.size w wr) (fun i _ => (intOf i).toNat)
    case atStart => exact ⟨0, by omega, by go_num, Lib.hid (fun h => by omega), Lib.hid (fun h => by omega), o3, b3⟩
    case round =>
      clear o3
      obtain ⟨t, ht, rfl, HT1, HT2, hO, hW⟩ := hrel
      by_cases hlt : t ≤ 1
      · have HRES : Hid (∀ k j, fk (2 - (t : Int)) 0 ks = some (k, j) → stepF ks = (putK ks k j (3 - (t : Int)), true)) := Lib.hid (by
          intro k j hf
          rcases (show t = 0 ∨ t = 1 by omega) with e | e
          · subst e; exact stepF_2 HK.out hf
          · subst e; exact stepF_1 HK.out (HT1.out (by omega)) hf)
        have HNEXT1 : Hid (fk (2 - (t : Int)) 0 ks = none → 1 ≤ t + 1 → fk 2 0 ks = none) := Lib.hid (by
          intro hf _
          rcases (show t = 0 ∨ t = 1 by omega) with e | e
          · subst e; exact hf
          · subst e; exact HT1.out (by omega))
        have HNEXT2 : Hid (fk (2 - (t : Int)) 0 ks = none → 2 ≤ t + 1 → fk 1 0 ks = none) := Lib.hid (by
          intro hf h2
          rcases (show t = 0 ∨ t = 1 by omega) with e | e
          · omega
          · subst e; exact hf)
        have ht1 : (1 : Int) ≤ 2 - (t : Int) := by omega
        have ht2 : (t : Int) ≤ 1 := by omega
        have ht3 : decide ((t : Int) ≤ 1) = true := decide_eq_true ht2
        go_wp2
        go_loopw [6] (fun i wr => ∃ k : Nat, k ≤ ks.length ∧ i = .int .i64 k ∧ Hid (fk (2 - (t : Int)) 0 ks = fk (2 - (t : Int)) k (ks.drop k)) ∧ OK wr w.heap.size (.slice A2 ks.length c2) (rowsOf ks) ∧ Below w.heap.size w wr) (fun i _ => ks.length - (intOf i).toNat)
        case atStart => exact ⟨0, Nat.zero_le _, rfl, rfl, hO, hW⟩
        case round =>
          clear hO hW
          obtain ⟨k, hk, rfl, HA, hO, hW⟩ := hrel
          by_cases hltk : k < ks.length
          · obtain ⟨b, off, rfl, hbl, hc⟩ := (h.below hW) (by omega)
            obtain ⟨Aj, cj, hcell, hso, -⟩ := hc k hltk
            have hlj := len_le_total ks k hltk
            have HSK := Lib.hid (fk_skip (2 - (t : Int)) ks k hltk)
            have HHT := Lib.hid (fun j => fk_hit (2 - (t : Int)) ks k j hltk)
            have HTK := Lib.hid (kit_ticket HK.out k hltk)
            have HPUT := Lib.hid (fun j s => putK_set ks k j s hltk)
            have HO := Lib.hid hO
            have HH := Lib.hid h
            clear hc hO h
            generalize ks[k] = os at *
            obtain ⟨wo, rfl⟩ : ∃ wo : World, wo = wr := ⟨_, rfl⟩
            go_wp2
            go_loopw [7] (fun i wx => ∃ j : Nat, j ≤ os.length ∧ i = .int .i64 j ∧ Hid (fj (2 - (t : Int)) 0 os = fj (2 - (t : Int)) j (os.drop j)) ∧ Hid (OK wx w.heap.size (.slice A2 ks.length c2) (rowsOf ks)) ∧ Below w.heap.size w wx ∧ Hid (Below w.heap.size wo wx)) (fun i _ => os.length - (intOf i).toNat)
            case atStart => exact ⟨0, Nat.zero_le _, rfl, rfl, HO, hW, Lib.hid (Below.refl _ _)⟩
            case round =>
              obtain ⟨j, hj, rfl, HJ, HO2, hW2, HWO⟩ := hrel
              have hcell2 : wr.cell? ⟨b, off + k, none⟩ = some (.slice Aj os.length cj) := by rw [HWO.out.cell (p := ⟨b, off + k, none⟩) hbl]; exact hcell
              have hso2 : SO wr wr.heap.size Aj os := (hso.below HWO.out).more hW2.size
              by_cases hltj : j < os.length
              · by_cases he : os[j].2 = 2 - (t : Int)
                · have HD := Lib.hid (step_do HTK.out hltj hlt he)
                  have HR := Lib.hid (HRES.out k j (HA.out.trans (HHT.out j (HJ.out.trans (fj_hit _ os j hltj he)))))
                  clear he
                  go_wp2_with fail
                  refine (spec_ticketDo _ _ _ _ _ _ hso2 (by omega)).mono ?_
                  rintro e w5 ⟨v5, rfl, o5, b5⟩
                  rw [HD.out] at o5
                  rw [HD.out]
                  obtain ⟨g, rfl, hg⟩ := HO2.out.head (by rw [rowsOf_length]; omega)
                  obtain ⟨⟨u, hc1⟩, hc2, hrep⟩ := HO2.out.replace b5 hW2.size k hltk o5
                  rw [HPUT.out] at hrep
                  have HP := Lib.hid hrep
                  obtain ⟨A5, c5, rfl, -⟩ := own_form o5
                  clear hrep o5
                  go_wp2
                  go_ret2
                  exact RetKB.mk HR.out HP.out (below_sc (below_step hW2 b5) hg _)
                · have HD := Lib.hid (step_not HTK.out hltj hlt he)
                  have HR := Lib.hid (HJ.out.trans (fj_skip _ os j hltj he))
                  clear he
                  go_wp2_with fail
                  refine (spec_ticketDo _ _ _ _ _ _ hso2 (by omega)).mono ?_
                  rintro e w5 ⟨v5, rfl, o5, b5⟩
                  rw [HD.out]
                  have HO5 := Lib.hid (HO2.out.below b5)
                  clear o5
                  go_wp2
                  go_roundw
                  case rel => exact ⟨j + 1, by omega, by go_num, HR, HO5, below_step hW2 b5, Lib.hid (HWO.out.trans (b5.mono hW2.size))⟩
                  case measure => simp [intOf]; omega
              · obtain rfl : j = os.length := by omega
                have HR := Lib.hid (HA.out.trans (HSK.out (HJ.out.trans (fj_end _ os))))
                go_wp2
                go_roundw
                case rel => exact ⟨k + 1, by omega, by go_num, HR, HO2.out, hW2⟩
                case measure => simp [intOf]; omega
          · obtain rfl : k = ks.length := by omega
            have HN := Lib.hid (HA.out.trans (fk_end (2 - (t : Int)) ks))
            have HO := Lib.hid hO
            clear hO
            go_wp2
            go_roundw
            case rel => exact ⟨t + 1, by omega, by go_num, Lib.hid (HNEXT1.out HN.out), Lib.hid (HNEXT2.out HN.out), HO.out, hW⟩
            case measure => simp [intOf]; omega
      · obtain rfl : t = 2 := by omega
        have HF2 := Lib.hid (HT1.out (by omega))
        have HF1 := Lib.hid (HT2.out (by omega))
        go_wp2_with fail
        refine (spec_nextFire _ _ _ _ ((h.below hW).more hW.size) hl).mono ?_
        rintro e w5 ⟨rfl, b8⟩
        have b9 := below_step hW b8
        have o5 := hO.below b8
        clear hO
        by_cases hn : (fireF ks).1 < 0
        · have HF := Lib.hid (stepF_end HK.out HF2.out HF1.out hn)
          have HO := Lib.hid o5
          clear o5
          go_wp2
          go_ret2
          exact RetKB.mk HF.out HO.out b9
        · obtain ⟨k, j, hk, he, hj, hd⟩ := fire_some HK.out hn
          have HF := Lib.hid (stepF_0 HK.out HF2.out HF1.out he)
          have HD := Lib.hid (do_fire (kit_ticket HK.out k hk) hj hd)
          have HPUT := Lib.hid (putK_set ks k j 1 hk)
          rw [he]
          obtain ⟨b, off, rfl, hbl, hc⟩ := (h.below b9) (by omega)
          obtain ⟨Aj, cj, hcell, hso, -⟩ := hc k hk
          have hlj := len_le_total ks k hk
          clear he hn hd hc
          generalize ks[k] = os at *
          go_wp2_with fail
          refine (spec_ticketDo _ _ _ _ _ _ (hso.more b9.size) (by omega)).mono ?_
          rintro e w6 ⟨v6, rfl, o6, b10⟩
          rw [HD.out] at o6
          rw [HD.out]
          obtain ⟨g, rfl, hg⟩ := o5.head (by rw [rowsOf_length]; omega)
          obtain ⟨⟨u, hc1⟩, hc2, hrep⟩ := o5.replace b10 b9.size k hk o6
          rw [HPUT.out] at hrep
          have HP := Lib.hid hrep
          obtain ⟨A6, c6, rfl, -⟩ := own_form o6
          clear hrep o6 o5
          go_wp2
          go_ret2
          exact RetKB.mk HF.out HP.out (below_sc (below_step b9 b10) hg _)
end Go.Proofs.YthbledeghanffaaDoor
