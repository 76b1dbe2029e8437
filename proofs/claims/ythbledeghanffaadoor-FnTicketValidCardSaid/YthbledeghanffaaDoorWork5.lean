/- WorkRun: what the program and the reference compute. -/
import Derived.Test.YthbledeghanffaaDoorWork4
set_option linter.unusedVariables false
set_option linter.unusedSimpArgs false
namespace Go.Proofs.YthbledeghanffaaDoor
open Go.ChangeShapes Go.WideShapes Go.ChangeAt Go.RowKit

def runG : List (List Ord) → Nat → Nat → List (List Ord) × Nat
  | ks, 0, d => (ks, d)
  | ks, m + 1, d => if (stepF ks).2 = true then runG (stepF ks).1 m (d + 1) else (ks, d)
def runF (ks : List (List Ord)) (most : Int) : List (List Ord) × Nat := if kitB ks && inB most 0 99 then runG ks most.toNat 0 else ([], 0)
theorem runF_no {ks : List (List Ord)} {most : Int} (h : (kitB ks && inB most 0 99) = false) : runF ks most = ([], 0) := by simp [runF, h]
theorem runF_yes {ks : List (List Ord)} {m : Nat} (h : kitB ks = true) (h2 : m ≤ 99) : runF ks (m : Int) = runG ks m 0 := by
  have : inB (m : Int) 0 99 = true := inB_true.2 (by omega)
  simp [runF, h, this]
theorem runG_step {ks : List (List Ord)} {m d : Nat} (h : (stepF ks).2 = true) : runG ks (m + 1) d = runG (stepF ks).1 m (d + 1) := by rw [runG, if_pos h]
theorem runG_stop {ks : List (List Ord)} {m d : Nat} (h : (stepF ks).2 = false) : runG ks (m + 1) d = (ks, d) := by rw [runG, if_neg (by rw [h]; simp)]
theorem runG_stop' {ks : List (List Ord)} {m d : Nat} (hd : d < m) (h : (stepF ks).2 = false) : runG ks (m - d) d = (ks, d) := by
  rw [show m - d = m - d - 1 + 1 by omega]; exact runG_stop h
theorem runG_step' {ks : List (List Ord)} {m d : Nat} (hd : d < m) (h : (stepF ks).2 = true) : runG ks (m - d) d = runG (stepF ks).1 (m - (d + 1)) (d + 1) := by
  rw [show m - d = m - (d + 1) + 1 by omega]; exact runG_step h
theorem runG_end (ks : List (List Ord)) (m : Nat) : runG ks (m - m) m = (ks, m) := by rw [Nat.sub_self]; rfl
theorem runG_size : ∀ (m : Nat) (ks : List (List Ord)) (d : Nat), ks.length + total ks ≤ 1048576 → (runG ks m d).1.length + total (runG ks m d).1 ≤ 1048576
  | 0, ks, d, h => h
  | m + 1, ks, d, h => by
    rw [runG]; split
    · exact runG_size m _ _ (stepF_size ks h)
    · exact h
theorem runF_size (ks : List (List Ord)) (most : Int) (h : ks.length + total ks ≤ 1048576) : (runF ks most).1.length + total (runF ks most).1 ≤ 1048576 := by
  unfold runF; split
  · exact runG_size _ _ _ h
  · simp [total]
def RetKI (w : World) (p : List (List Ord) × Nat) (e : Ending) (w' : World) : Prop := ∃ v, e = .returned (.tuple #[v, .int .i64 (p.2 : Int)]) ∧ OK w' w.heap.size v (rowsOf p.1) ∧ Below w.heap.size w w'
theorem RetKI.mk {w w' : World} {p : List (List Ord) × Nat} {v : Value} {ks : List (List Ord)} {d : Nat} (hp : p = (ks, d)) (ho : OK w' w.heap.size v (rowsOf ks)) (hb : Below w.heap.size w w') : RetKI w p (.returned (.tuple #[v, .int .i64 (d : Int)])) w' := by
  subst hp
  exact ⟨v, rfl, ho, hb⟩

set_option maxHeartbeats 8000000 in
theorem impl_workRun (A : Option Addr) (c : Nat) (ks : List (List Ord)) (most : Int) (w : World) (h : SK w w.heap.size A ks) (hl : ks.length + total ks ≤ 1048576) :
    Calls Tryd.prog 51 #[.slice A ks.length c, .int .i64 most] w (RetKI w (runF ks most)) := by
  cases hv : kitB ks
  · have HV := Lib.hid (runF_no (ks := ks) (most := most) (by rw [hv]; rfl))
    go_enter Tryd.func51, Tryd.ntmps51
    go_wp2_with (go_at_call 27; refine (impl_kitchenValid _ _ _ _ h hl).mono ?_; rintro e w1 ⟨rfl, b1⟩)
    go_ret2
    exact RetKI.mk (d := 0) HV.out (OK.nil _ _) b1
  · by_cases g1 : 0 ≤ most
    · by_cases g2 : most ≤ 99
      · obtain ⟨m, rfl⟩ : ∃ m : Nat, most = m := ⟨most.toNat, by omega⟩
        have HF := Lib.hid (runF_yes (m := m) hv (by omega))
        have hd1 : decide ((m : Int) < 0) = false := decide_eq_false (by omega)
        have hd2 : decide ((99 : Int) < (m : Int)) = false := decide_eq_false (by omega)
        have hm99 : m ≤ 99 := by omega
        have hd3 : decide (99 < m) = false := decide_eq_false (by omega)
        go_enter Tryd.func51, Tryd.ntmps51
        go_wp2_with fail
        refine (impl_kitchenValid _ _ _ _ h hl).mono ?_
        rintro e w1 ⟨rfl, b1⟩
        have h1 := (h.below b1).more b1.size
        go_wp2_with fail
        clear hv
        refine (copyKitchen_any _ _ _ _ h1 hl).mono ?_
        rintro e w2 ⟨v2, rfl, o2, b2⟩
        have b3 := below_step b1 b2
        have o3 := o2.mono b1.size
        clear o2 hd1 hd2 hd3
        go_wp2
        go_loopw [6, 7] (fun v i wr => ∃ (d : Nat) (v0 : Value) (cur : List (List Ord)), d ≤ m ∧ v0 = v ∧ i = .int .i64 (d : Int) ∧ Hid (runG ks m 0 = runG cur (m - d) d) ∧ Hid (cur.length + total cur ≤ 1048576) ∧ OK wr w.heap.size v0 (rowsOf cur) ∧ Below w.heap.size w wr) (fun _ i _ => m - (intOf i).toNat)
        case atStart => exact ⟨0, _, ks, Nat.zero_le _, rfl, rfl, rfl, Lib.hid hl, o3, b3⟩
        case round =>
          clear o3
          obtain ⟨d, v, cur, hd, rfl, rfl, HR, HL, hO, hW⟩ := hrel
          by_cases hlt : d < m
          · obtain ⟨A2, c2, rfl, -⟩ := hO.form
            have hrd := hO.reads
            have HO := Lib.hid hO
            clear hO
            go_wp2_with fail
            refine (impl_workStep _ _ _ _ hrd HL.out).mono ?_
            rintro e w5 ⟨v5, rfl, o5, b5⟩
            cases hs : (stepF cur).2
            · have HE := Lib.hid (HR.out.trans (runG_stop' hlt hs))
              have HO5 := Lib.hid (HO.out.below b5)
              clear o5
              go_wp2
              go_ret2
              exact RetKI.mk (HF.out.trans HE.out) HO5.out (below_step hW b5)
            · have HE := Lib.hid (HR.out.trans (runG_step' hlt hs))
              have HO5 := Lib.hid (o5.mono hW.size)
              have HL5 := Lib.hid (stepF_size cur HL.out)
              clear o5
              go_wp2
              go_roundw
              case rel => exact ⟨d + 1, _, _, by omega, rfl, by go_num, HE, HL5, HO5.out, below_step hW b5⟩
              case measure => simp [intOf]; omega
          · obtain rfl : d = m := by omega
            have HE := Lib.hid (HR.out.trans (runG_end _ _))
            have HO := Lib.hid hO
            clear hO
            go_wp2
            go_ret2
            exact RetKI.mk (HF.out.trans HE.out) HO.out hW
      · have HV := Lib.hid (runF_no (ks := ks) (most := most) (by rw [hv, inB_false.2 (.inr (by omega))]; rfl))
        have hd1 : decide (most < 0) = false := decide_eq_false (by omega)
        have hd2 : decide (99 < most) = true := decide_eq_true (by omega)
        clear g1 g2
        go_enter Tryd.func51, Tryd.ntmps51
        go_wp2_with (go_at_call 27; refine (impl_kitchenValid _ _ _ _ h hl).mono ?_; rintro e w1 ⟨rfl, b1⟩)
        go_ret2
        exact RetKI.mk (d := 0) HV.out (OK.nil _ _) b1
    · have HV := Lib.hid (runF_no (ks := ks) (most := most) (by rw [hv, inB_false.2 (.inl (by omega))]; rfl))
      have hd1 : decide (most < 0) = true := decide_eq_true (by omega)
      clear g1
      go_enter Tryd.func51, Tryd.ntmps51
      go_wp2_with (go_at_call 27; refine (impl_kitchenValid _ _ _ _ h hl).mono ?_; rintro e w1 ⟨rfl, b1⟩)
      go_ret2
      exact RetKI.mk (d := 0) HV.out (OK.nil _ _) b1
set_option maxHeartbeats 8000000 in
theorem spec_workRun (A : Option Addr) (c : Nat) (ks : List (List Ord)) (most : Int) (w : World) (h : SK w w.heap.size A ks) (hl : ks.length + total ks ≤ 1048576) :
    Calls Tryd.prog 52 #[.slice A ks.length c, .int .i64 most] w (RetKI w (runF ks most)) := by
  cases hv : kitB ks
  · have HV := Lib.hid (runF_no (ks := ks) (most := most) (by rw [hv]; rfl))
    go_enter Tryd.func52, Tryd.ntmps52
    go_wp2_with (go_at_call 28; refine (spec_kitchenValid _ _ _ _ h hl).mono ?_; rintro e w1 ⟨rfl, b1⟩)
    go_ret2
    exact RetKI.mk (d := 0) HV.out ⟨[], own_empty _ _ 1 _ b1.size, Inn.nil _ _⟩ (below_al b1 _)
  · cases g : inB most 0 99
    · have HV := Lib.hid (runF_no (ks := ks) (most := most) (by rw [hv, g]; rfl))
      go_enter Tryd.func52, Tryd.ntmps52
      go_wp2_with (first | (go_at_call 28; refine (spec_kitchenValid _ _ _ _ h hl).mono ?_; rintro e w1 ⟨rfl, b1⟩) | (go_at_call 56; refine (l1In_any _ _ _ _).mono ?_; rintro e w' ⟨rfl, rfl⟩))
      go_ret2
      exact RetKI.mk (d := 0) HV.out ⟨[], own_empty _ _ 1 _ b1.size, Inn.nil _ _⟩ (below_al b1 _)
    · obtain ⟨m, rfl⟩ : ∃ m : Nat, most = m := ⟨most.toNat, by have := inB_true.1 g; omega⟩
      have hm99 : m ≤ 99 := by have := inB_true.1 g; omega
      have HF := Lib.hid (runF_yes (m := m) hv hm99)
      go_enter Tryd.func52, Tryd.ntmps52
      go_wp2_with fail
      refine (spec_kitchenValid _ _ _ _ h hl).mono ?_
      rintro e w1 ⟨rfl, b1⟩
      have h1 := (h.below b1).more b1.size
      go_wp2_with (go_at_call 56; refine (l1In_any _ _ _ _).mono ?_; rintro e w' ⟨rfl, rfl⟩)
      clear hv g
      refine (l4Copy_any _ _ _ _ h1 hl).mono ?_
      rintro e w2 ⟨v2, rfl, o2, b2⟩
      have b3 := below_step b1 b2
      have o3 := o2.mono b1.size
      clear o2
      go_wp2
      go_loopw [6, 7] (fun v i wr => ∃ (d : Nat) (v0 : Value) (cur : List (List Ord)), d ≤ m ∧ v0 = v ∧ i = .int .i64 (d : Int) ∧ Hid (runG ks m 0 = runG cur (m - d) d) ∧ Hid (cur.length + total cur ≤ 1048576) ∧ OK wr w.heap.size v0 (rowsOf cur) ∧ Below w.heap.size w wr) (fun _ i _ => m - (intOf i).toNat)
      case atStart => exact ⟨0, _, ks, Nat.zero_le _, rfl, rfl, rfl, Lib.hid hl, o3, b3⟩
      case round =>
        clear o3
        obtain ⟨d, v, cur, hd, rfl, rfl, HR, HL, hO, hW⟩ := hrel
        by_cases hlt : d < m
        · obtain ⟨A2, c2, rfl, -⟩ := hO.form
          have hrd := hO.reads
          have HO := Lib.hid hO
          clear hO
          go_wp2_with fail
          refine (spec_workStep _ _ _ _ hrd HL.out).mono ?_
          rintro e w5 ⟨v5, rfl, o5, b5⟩
          cases hs : (stepF cur).2
          · have HE := Lib.hid (HR.out.trans (runG_stop' hlt hs))
            have HO5 := Lib.hid (HO.out.below b5)
            clear o5
            go_wp2
            go_ret2
            exact RetKI.mk (HF.out.trans HE.out) HO5.out (below_step hW b5)
          · have HE := Lib.hid (HR.out.trans (runG_step' hlt hs))
            have HO5 := Lib.hid (o5.mono hW.size)
            have HL5 := Lib.hid (stepF_size cur HL.out)
            clear o5
            go_wp2
            go_roundw
            case rel => exact ⟨d + 1, _, _, by omega, rfl, by go_num, HE, HL5, HO5.out, below_step hW b5⟩
            case measure => simp [intOf]; omega
        · obtain rfl : d = m := by omega
          have HE := Lib.hid (HR.out.trans (runG_end _ _))
          have HO := Lib.hid hO
          clear hO
          go_wp2
          go_ret2
          exact RetKI.mk (HF.out.trans HE.out) HO.out hW
end Go.Proofs.YthbledeghanffaaDoor
