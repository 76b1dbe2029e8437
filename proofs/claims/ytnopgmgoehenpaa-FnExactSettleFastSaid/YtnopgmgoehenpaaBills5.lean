/- PaysOk: the walk of the program, and of the law. -/
import Derived.Test.YtnopgmgoehenpaaBills4
namespace Go.Proofs.Ytnopgmgoehenpaa
open Go.ChangeShapes Go.WideShapes Go.ChangeAt Go.RowKit

set_option maxHeartbeats 8000000 in
theorem impl_paysOk (A A' : Option Addr) (c c' : Nat) (owed : List Int) (ps : List PayT) (w : World) (h : IS w w.heap.size A owed) (h' : SP w w.heap.size A' ps) (hl : owed.length ≤ 1048576) (hl' : ps.length ≤ 1048576) :
    Calls Try.prog 26 #[.slice A owed.length c, .slice A' ps.length c'] w fun e w' => e = .returned (.bool (paysB owed ps)) ∧ Below w.heap.size w w' := by
  cases hv : owedB owed
  · have HV : Hid (paysB owed ps = false) := by simp [Hid, paysB, hv]
    go_enter Try.func26, Try.ntmps26
    go_wp2_with (go_at_call 17; refine (impl_owedValid _ _ _ _ _ h hl).mono ?_; rintro e w' ⟨rfl, rfl⟩)
    go_ret
    exact ⟨ret_bool HV.out.symm, Below.refl _ _⟩
  · have HV : Hid (paysB owed ps = (ps.all (payOk owed.length) && zeroB (paysOpen owed ps))) := by simp [Hid, paysB, hv, zeroB]
    have hw0 : within 9999 owed := by
      simp only [owedB, Bool.and_eq_true] at hv
      intro x hx
      have := inB_true.1 (List.all_eq_true.1 hv.2.1 x hx)
      omega
    have W0 := Lib.hid hw0
    clear hw0
    go_enter Try.func26, Try.ntmps26
    go_wp2_with fail
    refine (impl_owedValid _ _ _ _ _ h hl).mono ?_
    rintro e w' ⟨rfl, rfl⟩
    go_wp2_with fail
    refine (copyInts_any _ _ _ _ h hl).mono ?_
    rintro e w2 ⟨v2, rfl, hO2, b2⟩
    unfold OI at hO2
    obtain ⟨A2, c2, rfl, -⟩ := own_form hO2
    go_wp2
    go_loopw [17] (fun i wr => ∃ k : Nat, k ≤ ps.length ∧ i = .int .i64 k ∧ (ps.take k).all (payOk owed.length) = true ∧ wr.ownsRow w.heap.size 3 1 (.slice A2 owed.length c2) owed.length (ints (paysOpen owed (ps.take k))) ∧ within (9999 * (k + 1)) (paysOpen owed (ps.take k)) ∧ Below w.heap.size w wr) (fun i _ => ps.length - (intOf i).toNat)
    case atStart => exact ⟨0, Nat.zero_le _, rfl, by simp, hO2, by simpa [paysOpen] using W0.out, b2⟩
    case round =>
      obtain ⟨k, hk, rfl, ha, hO, hM, hW⟩ := hrel
      have HA := Lib.hid ha
      have HM := Lib.hid hM
      clear ha hM
      by_cases hlt : k < ps.length
      · obtain ⟨b, off, rfl, hbl, hc⟩ := (h'.below hW).at_ (by omega)
        have hck := hc k hlt
        generalize hp : ps[k] = p at hck
        obtain ⟨pf, pt, su⟩ := p
        obtain ⟨hck1, hck2, hck3⟩ := hck
        simp only at hck1 hck2 hck3
        have HP := Lib.hid hp.symm
        clear hp hc
        by_cases hok : payOk owed.length (pf, pt, su) = true
        · obtain ⟨g1, g2, g3, g4⟩ := payOk_split.1 hok
          have HOK := Lib.hid hok
          clear hok
          simp only at g1 g2 g3 g4
          have q1 := inB_true.1 g1
          have q2 := inB_true.1 g2
          have q4 := inB_true.1 g4
          obtain ⟨f, rfl⟩ : ∃ f : Nat, pf = f := ⟨pf.toNat, by omega⟩
          obtain ⟨t, rfl⟩ : ∃ t : Nat, pt = t := ⟨pt.toNat, by omega⟩
          have hne : f ≠ t := by intro e; subst e; simp at g3
          obtain ⟨g, rfl, hgb⟩ := own_head hO (by omega)
          have hll : (paysOpen owed (ps.take k)).length = owed.length := paysOpen_length _ _
          obtain ⟨⟨f1, f2, f3, f4, f5, f6⟩, ⟨f7, f8⟩, hO3, hM3⟩ := pay_facts hO f t su _ 45 (by omega) (by omega) hne HM.out (by omega) q4
          have e1 := paysOpen_succ owed ps k hlt
          rw [← HP.out] at e1
          rw [← e1] at hO3 hM3
          have HO3 := Lib.hid hO3
          have HM3 := Lib.hid hM3
          have d1 : decide ((f : Int) < 0) = false := by simp
          have d2 : decide ((owed.length : Int) ≤ f) = false := by simp; omega
          have d3 : decide ((t : Int) < 0) = false := by simp
          have d4 : decide ((owed.length : Int) ≤ t) = false := by simp; omega
          have d5 : decide (su < 1) = false := by simp; omega
          have d6 : decide (9999 < su) = false := by simp; omega
          clear hO3 hM3 e1 hO
          go_wp2
          go_region
          all_goals
            go_wp2
            go_region
          all_goals
            go_wp2
            go_roundw
            case rel => exact ⟨k + 1, by omega, by go_num, by rw [all_take_succ _ ps k hlt, HA.out, ← HP.out]; exact HOK.out, own_alike HO3.out rfl, by rw [show (9999 : Int) * (((k + 1 : Nat) : Int) + 1) = 9999 * ((k : Int) + 1) + 9999 by omega]; exact HM3.out, below_drewN (below_sc (below_sc (below_al hW _) hgb _) hgb _) 2⟩
            case measure => simp [intOf]; omega
        · have hbad : payOk owed.length ps[k] = false := by rw [← HP.out]; simpa using hok
          have HB := Lib.hid (paysB_no (owed := owed) k hlt hbad)
          clear hbad
          by_cases h1 : pf < 0
          · have dh1 : decide (pf < 0) = true := by simp; omega
            clear hok
            go_wp2
            all_goals (go_ret; exact ⟨ret_bool HB.out.symm, below_al hW _⟩)
          · have dh1 : decide (pf < 0) = false := by simp; omega
            replace h1 : 0 ≤ pf := by omega
            by_cases h2 : (owed.length : Int) ≤ pf
            · have dh2 : decide ((owed.length : Int) ≤ pf) = true := by simp; omega
              clear hok
              go_wp2
              all_goals (go_ret; exact ⟨ret_bool HB.out.symm, below_al hW _⟩)
            · have dh2 : decide ((owed.length : Int) ≤ pf) = false := by simp; omega
              replace h2 : pf < owed.length := by omega
              by_cases h3 : pt < 0
              · have dh3 : decide (pt < 0) = true := by simp; omega
                clear hok
                go_wp2
                all_goals (go_ret; exact ⟨ret_bool HB.out.symm, below_al hW _⟩)
              · have dh3 : decide (pt < 0) = false := by simp; omega
                replace h3 : 0 ≤ pt := by omega
                by_cases h4 : (owed.length : Int) ≤ pt
                · have dh4 : decide ((owed.length : Int) ≤ pt) = true := by simp; omega
                  clear hok
                  go_wp2
                  all_goals (go_ret; exact ⟨ret_bool HB.out.symm, below_al hW _⟩)
                · have dh4 : decide ((owed.length : Int) ≤ pt) = false := by simp; omega
                  replace h4 : pt < owed.length := by omega
                  cases h5 : (pf == pt)
                  · by_cases h6 : su < 1
                    · have d6 : decide (su < 1) = true := by simp; omega
                      clear hok
                      go_wp2
                      all_goals (go_ret; exact ⟨ret_bool HB.out.symm, below_al hW _⟩)
                    · have d6 : decide (su < 1) = false := by simp; omega
                      have h7 : 9999 < su := by
                        have a1 := inB_true.2 (show (0 : Int) ≤ pf ∧ pf ≤ (owed.length : Int) - 1 by omega)
                        have a2 := inB_true.2 (show (0 : Int) ≤ pt ∧ pt ≤ (owed.length : Int) - 1 by omega)
                        have a3 : inB su 1 9999 = false := by simpa [payOk, a1, a2, h5] using hok
                        rw [inB_false] at a3; omega
                      have d7 : decide (9999 < su) = true := by simp; omega
                      clear hok
                      go_wp2
                      all_goals (go_ret; exact ⟨ret_bool HB.out.symm, below_al hW _⟩)
                  · have _t := trivial
                    clear hok
                    go_wp2
                    all_goals (go_ret; exact ⟨ret_bool HB.out.symm, below_al hW _⟩)
      · obtain rfl : k = ps.length := by omega
        rw [List.take_length] at HA hO
        have hr := (OwnR.mk hO).reads
        have hll : (paysOpen owed ps).length = owed.length := paysOpen_length _ _
        have HLL := Lib.hid hll
        generalize paysOpen owed ps = l at *
        have HO := Lib.hid hO
        clear hO hll
        go_wp2
        go_loopw [79] (fun i wr => ∃ k : Nat, k ≤ owed.length ∧ i = .int .i64 k ∧ (l.take k).all (fun x => x == 0) = true ∧ RV wr wr.heap.size A2 (ints l) ∧ Below w.heap.size w wr) (fun i _ => owed.length - (intOf i).toNat)
        case atStart => exact ⟨0, Nat.zero_le _, rfl, by simp, hr, hW⟩
        case round =>
          obtain ⟨k, hk, rfl, ha2, hr, hW2⟩ := hrel
          have HA2 := Lib.hid ha2
          clear ha2
          by_cases hlt : k < owed.length
          · have hlt2 : k < l.length := by have := HLL.out; omega
            obtain ⟨b, off, rfl, hbl, hc⟩ := IS.at_ hr (by omega)
            have hck := hc k hlt2
            cases g1 : (l[k] == 0)
            · have g2 : (l[k] != 0) = true := by simp [bne, g1]
              go_wp2
              go_ret
              exact ⟨ret_bool (by rw [HV.out, zeroB, all_false _ l k hlt2 g1]; simp), hW2⟩
            · have g2 : (l[k] != 0) = false := by simp [bne, g1]
              have G1 := Lib.hid g1
              have HR := Lib.hid hr
              clear g1 hr hc
              go_wp2
              go_roundw
              case rel => exact ⟨k + 1, by omega, by go_num, by rw [all_take_succ _ l k hlt2, HA2.out, G1.out]; rfl, HR.out, hW2⟩
              case measure => simp [intOf]; omega
          · go_wp2
            go_ret
            exact ⟨ret_bool (by rw [HV.out, HA.out, zeroB, ← all_take_end _ l k (by have := HLL.out; omega), HA2.out]; rfl), hW2⟩
end Go.Proofs.Ytnopgmgoehenpaa
