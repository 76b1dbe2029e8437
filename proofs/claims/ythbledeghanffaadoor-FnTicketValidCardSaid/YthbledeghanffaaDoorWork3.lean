/- WorkStep: the walks. -/
import Derived.Test.YthbledeghanffaaDoorWork2
set_option linter.unusedVariables false
set_option linter.unusedSimpArgs false
namespace Go.Proofs.YthbledeghanffaaDoor
open Go.ChangeShapes Go.WideShapes Go.ChangeAt Go.RowKit

set_option maxHeartbeats 8000000 in
theorem impl_workStep (A : Option Addr) (c : Nat) (ks : List (List Ord)) (w : World) (h : SK w w.heap.size A ks) (hl : ks.length + total ks ≤ 1048576) :
    Calls Tryd.prog 47 #[.slice A ks.length c] w (RetKB w (stepF ks)) := by
  cases hv : kitB ks
  · have HV := Lib.hid (stepF_no hv)
    go_enter Tryd.func47, Tryd.ntmps47
    go_wp2_with (go_at_call 27; refine (impl_kitchenValid _ _ _ _ h hl).mono ?_; rintro e w1 ⟨rfl, b1⟩)
    go_ret2
    exact RetKB.mk HV.out (OK.nil _ _) b1
  · have HK := Lib.hid hv
    go_enter Tryd.func47, Tryd.ntmps47
    go_wp2_with fail
    refine (impl_kitchenValid _ _ _ _ h hl).mono ?_
    rintro e w1 ⟨rfl, b1⟩
    have h1 := (h.below b1).more b1.size
    go_wp2_with fail
    clear hv
    refine (copyKitchen_any _ _ _ _ h1 hl).mono ?_
    rintro e w2 ⟨v2, rfl, o2, b2⟩
    have b3 := below_step b1 b2
    have h2 := (h.below b3).more b3.size
    obtain ⟨A2, c2, rfl, -⟩ := o2.form
    go_wp2_with fail
    refine (firstIn_any _ _ _ _ _ h2 hl).mono ?_
    rintro e w3 ⟨rfl, b4⟩
    have b5 := below_step b3 b4
    have o3 := (o2.below b4).mono b1.size
    have h3 := (h.below b5).more b5.size
    clear o2
    cases hf : fk 2 0 ks with
    | some p =>
      obtain ⟨k, j⟩ := p
      have HF := Lib.hid (stepF_2 HK.out hf)
      obtain ⟨-, hk, hj, -⟩ := fk_some 2 ks 0 k j hf
      simp only [Nat.sub_zero] at hk hj
      rw [fiP_some hf]
      obtain ⟨b, off, g, ck, rfl, hlo, hc1, ⟨u, hc2⟩, hc3, hput⟩ := o3.put k j hk hj
      have HP := Lib.hid (hput 3)
      clear hput o3 hf
      go_wp2
      go_ret2
      exact RetKB.mk HF.out HP.out (below_sc b5 hlo _)
    | none =>
      rw [fiP_none hf]
      go_wp2_with fail
      refine (firstIn_any _ _ _ _ _ h3 hl).mono ?_
      rintro e w4 ⟨rfl, b6⟩
      have b7 := below_step b5 b6
      have o4 := o3.below b6
      have h4 := (h.below b7).more b7.size
      clear o3
      cases hf1 : fk 1 0 ks with
      | some p =>
        obtain ⟨k, j⟩ := p
        have HF := Lib.hid (stepF_1 HK.out hf hf1)
        obtain ⟨-, hk, hj, -⟩ := fk_some 1 ks 0 k j hf1
        simp only [Nat.sub_zero] at hk hj
        rw [fiP_some hf1]
        obtain ⟨b, off, g, ck, rfl, hlo, hc1, ⟨u, hc2⟩, hc3, hput⟩ := o4.put k j hk hj
        have HP := Lib.hid (hput 2)
        clear hput o4 hf hf1
        go_wp2
        go_ret2
        exact RetKB.mk HF.out HP.out (below_sc b7 hlo _)
      | none =>
        rw [fiP_none hf1]
        go_wp2_with fail
        refine (impl_nextFire _ _ _ _ h4 hl).mono ?_
        rintro e w5 ⟨rfl, b8⟩
        have b9 := below_step b7 b8
        have o5 := o4.below b8
        clear o4
        by_cases hn : (fireF ks).1 < 0
        · have HF := Lib.hid (stepF_end HK.out hf hf1 hn)
          have HO := Lib.hid o5
          have hd : decide ((0 : Int) ≤ (fireF ks).1) = false := decide_eq_false (by omega)
          clear hf hf1 o5
          go_wp2
          go_ret2
          exact RetKB.mk HF.out HO.out b9
        · obtain ⟨k, j, hk, he, hj, -⟩ := fire_some HK.out hn
          have HF := Lib.hid (stepF_0 HK.out hf hf1 he)
          rw [he]
          obtain ⟨b, off, g, ck, rfl, hlo, hc1, ⟨u, hc2⟩, hc3, hput⟩ := o5.put k j hk hj
          have HP := Lib.hid (hput 1)
          clear hput o5 hf hf1 he hn
          go_wp2
          go_ret2
          exact RetKB.mk HF.out HP.out (below_sc b9 hlo _)
end Go.Proofs.YthbledeghanffaaDoor
