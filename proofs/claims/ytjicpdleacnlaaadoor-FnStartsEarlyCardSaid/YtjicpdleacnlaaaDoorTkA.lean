/- FnStartsEarly: the law's walk. -/
import Derived.Test.YtjicpdleacnlaaaDoorTkM
import Derived.Test.YtjicpdleacnlaaaDoorTask8
import Derived.Deep.RegionHeld3
import Derived.Lib.MinMax
set_option linter.unusedVariables false
set_option linter.unusedSimpArgs false
namespace Go.Proofs.YtjicpdleacnlaaaDoor
open Go.ChangeShapes Go.WideShapes Go.ChangeAt Go.RowKit

theorem starts_nil (ts : List Tsk) (h : tasksB ts = false) : earlyF ts = [] := earlyF_no h
theorem iadd (xs : List Int) : ints [] ++ ints xs = ints xs := by simp [ints]
set_option maxRecDepth 20000 in
set_option maxHeartbeats 1500000 in
theorem walk_fnStartsEarly (w : World) (A : Option Addr) (c : Nat) (xs : List Int) (h : RV w w.heap.size A (bts xs)) (hc : xs.length ≤ c) (hm : c ≤ maxLen) (hb : ∀ x ∈ xs, 0 ≤ x ∧ x ≤ 255) :
    Calls Tryd.prog 9 #[.slice A xs.length c] w fun e w' => e = .returned (.bool true) ∧ Below w.heap.size w w' := by
  unfold maxLen at hm
  by_cases hl : xs.length ≤ 1048576
  · have HD := Lib.hid (drawStartsEarly_any A c xs w h hc hl hb)
    clear hb h
    have hd8 : decide ((1048576 : Int) < (xs.length : Int)) = false := decide_eq_false (by omega)
    go_enter Tryd.func9, Tryd.ntmps9
    go_wp2_with fail
    refine HD.out.mono ?_
    rintro e w1 ⟨v, ts, rfl, o, ⟨hl8, hl100⟩, bel⟩
    obtain ⟨A1, c1, rfl, hcl, hcm⟩ := o.form
    have hr1 := o.reads
    clear o HD hd8
    go_wp2_with fail
    refine (impl_startsEarly A1 c1 ts _ hr1 (by omega)).mono ?_
    rintro e w2 ⟨v2, rfl, o2, b2⟩
    obtain ⟨A2, c2, rfl, hr2, -⟩ := o2.form
    replace hr1 := hr1.step b2
    replace bel := below_step bel b2
    have HLL := Lib.hid (earlyF_len ts (by omega))
    clear b2 o2
    go_wp2_with fail
    refine (spec_startsEarly A1 c1 ts _ hr1 (by omega)).mono ?_
    rintro e w3 ⟨v3, rfl, o3, b3⟩
    obtain ⟨A3, c3, rfl, hr3, -⟩ := o3.form
    replace hr1 := hr1.step b3
    replace hr2 := RV.step hr2 b3
    replace bel := below_step bel b3
    clear b3 o3
    go_wp2_with fail
    refine (sameInts_e A2 A3 c2 c3 (earlyF ts) _ hr2 hr3 HLL.out).mono ?_
    rintro e w4 ⟨rfl, b4⟩
    replace hr1 := hr1.step b4
    replace hr2 := RV.step hr2 b4
    replace bel := below_step bel b4
    clear b4 hr3
    go_wp2_with fail
    refine (spec_tasksValid A1 c1 ts _ _ hr1 (by omega)).mono ?_
    rintro e w5 ⟨rfl, hq⟩
    have b5 : Below w4.heap.size w4 w5 := by obtain ⟨q, rfl⟩ := hq; exact below_n q
    replace hr1 := hr1.step b5
    replace hr2 := RV.step hr2 b5
    replace bel := below_step bel b5
    clear b5 hq
    cases hs : tasksB ts
    · have hx := earlyF_no hs
      rw [hx]
      clear hx hs hr1 hr2
      go_wp2_with fail
      refine (alive_any _).mono ?_
      rintro e w99 ⟨rfl, b99⟩
      go_wp2
      go_ret
      exact ⟨rfl, below_step bel b99⟩
    · have hx := earlyF_yes hs
      rw [hx] at hr2 HLL ⊢
      have HEL := Lib.hid (early_length ts ts.length)
      have HLS := Lib.hid (early_less hs)
      have HOK := Lib.hid (early_starts hs)
      have HEB := Lib.hid (fun a => early_bound hs ts.length a)
      clear hx hs
      rw [HEL.out]
      have hbs := bel.size
      go_wp2
      go_loopw [5] (fun i wr => ∃ k : Nat, k ≤ ts.length ∧ i = .int .i64 k ∧ Below w5.heap.size w5 wr) (fun i _ => ts.length - (intOf i).toNat)
      case atStart => exact ⟨0, Nat.zero_le _, rfl, Below.refl _ _⟩
      case round =>
        obtain ⟨k, hk, rfl, hB⟩ := hrel
        have h6 := hr1.below hB
        have r6 := RV.below hr2 hB
        have h6s := hB.size
        by_cases hlt : k < ts.length
        · have hy := (HEB.out k)
          have HL := Lib.hid (HLS.out k hlt)
          go_wp2_with (at_builtin; refine wpList_app _ rfl _ _ 23 rfl int_EIT wr.heap.size (.slice (some ⟨wr.heap.size, 0, none⟩) 0 0) 0 [] rfl (own_empty _ _ 1 _ (Nat.le_refl _)) A2 ts.length c2 (ints (early ts ts.length)) rfl (by rw [ints_length, HEL.out, Nat.mul_one]) (r6.below ((Below.refl _ _).alloc h6s _)) (ints_one _) (le_max (by omega)) (by omega) (by simp) ?_; intro v7 w7 hO7 hg7 _; have b7 : Below wr.heap.size wr w7 := below_app (below_al (Below.refl _ _) _) (own_empty _ _ 1 _ (Nat.le_refl _)) hg7; have hO8 : w7.ownsRow wr.heap.size 3 1 v7 ts.length (ints (early ts ts.length)) := (by rw [Nat.zero_add, List.nil_append] at hO7; exact hO7); clear hO7 hg7; obtain ⟨A7, c7, rfl, -⟩ := own_form hO8; obtain ⟨g, rfl, hgb⟩ := own_head hO8 (by omega); obtain ⟨hcell, hfr⟩ := row_at0 hO8 k (by rw [HEL.out]; exact hlt); have HO9 := Lib.hid (row_set hO8 k (at0 (early ts ts.length) k - 1)); have HB7 := Lib.hid b7; clear hO8 b7)
          have b9 : Below wr.heap.size wr (w7.setCell ⟨g, k, none⟩ (.int .i64 (at0 (early ts ts.length) k - 1))) := HB7.out.setCell hgb _
          have hls : ((early ts ts.length).set k (at0 (early ts ts.length) k - 1)).length = ts.length := by rw [List.length_set]; exact HEL.out
          have hcall := impl_startsOk A1 (some ⟨g, 0, none⟩) c1 c7 ts ((early ts ts.length).set k (at0 (early ts ts.length) k - 1)) _ (((hr1.below hB).more hB.size).step b9) (oe_reads HO9.out) (by omega) (by rw [hls]; omega)
          rw [hls, HL.out] at hcall
          refine hcall.mono ?_
          rintro e w10 ⟨rfl, b10⟩
          have HX := Lib.hid (hB.trans ((below_step b9 b10).mono h6s))
          clear hcall hls b9 b10 HO9 HB7 h6 r6
          go_wp2
          go_roundw
          case rel => exact ⟨k + 1, by omega, by go_num, HX.out⟩
          case measure => (simp [intOf]) <;> omega
        · obtain rfl : k = ts.length := by omega
          go_wp2_with fail
          have hcall := impl_startsOk A1 A2 c1 c2 ts (early ts ts.length) wr ((hr1.below hB).more hB.size) (RV.more (RV.below hr2 hB) hB.size) (by omega) (by rw [HEL.out]; omega)
          rw [HEL.out, HOK.out] at hcall
          refine hcall.mono ?_
          rintro e w9 ⟨rfl, b9⟩
          go_wp2
          go_ret
          exact ⟨rfl, below_step (bel.trans (hB.mono hbs)) b9⟩
  · go_enter Tryd.func9, Tryd.ntmps9
    go_wp2
    go_ret
    exact ⟨rfl, Below.refl _ _⟩
end Go.Proofs.YtjicpdleacnlaaaDoor
