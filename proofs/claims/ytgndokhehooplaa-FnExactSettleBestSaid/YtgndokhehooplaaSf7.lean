/- SettleFast: the walk of the reference. -/
import Derived.Test.YtgndokhehooplaaSf6
set_option linter.unusedVariables false
set_option linter.unusedSimpArgs false
namespace Go.Proofs.Ytgndokhehooplaa
open Go.ChangeShapes Go.WideShapes Go.ChangeAt Go.RowKit

set_option maxRecDepth 100000 in
set_option maxHeartbeats 16000000 in
theorem spec_settleFast (A : Option Addr) (c : Nat) (xs : List Int) (w : World) (h : IS w w.heap.size A xs) (hl : xs.length ≤ 1048576) :
    Calls Try.prog 50 #[.slice A xs.length c] w (RetP w (settleR xs)) := by
  cases hv : owedB xs
  · have HV : Hid (settleR xs = []) := by simp [Hid, settleR, hv]
    have h0 : IS (w.alloc (.cells #[] 53)) w.heap.size A xs := h.below (below_al (Below.refl _ _) _)
    go_enter Try.func50, Try.ntmps50
    go_wp2_with (go_at_call 32; refine (spec_owedValid _ _ _ _ _ h0 hl).mono ?_; rintro e w' ⟨rfl, rfl⟩)
    go_ret
    exact ⟨_, rfl, by rw [HV.out]; exact own_empty _ _ 3 _ (Nat.le_refl _), below_al (Below.refl _ _) _⟩
  · have HV : Hid (settleR xs = settleF xs) := by simp [Hid, settleR, hv]
    have h0 : IS (w.alloc (.cells #[] 53)) w.heap.size A xs := h.below (below_al (Below.refl _ _) _)
    have h1 : IS ((w.alloc (.cells #[] 53)).alloc (.cells #[] 3)) w.heap.size A xs := h.below (below_al (below_al (Below.refl _ _) _) _)
    have HP := Lib.hid (opn_of hv)
    have bb : Below w.heap.size w ((w.alloc (.cells #[] 53)).alloc (.cells #[] 3)) := below_al (below_al (Below.refl _ _) _) _
    have hi1 : w.heap.size ≤ (w.alloc (.cells #[] 53)).heap.size := (below_al (Below.refl _ _) _).size
    have hY1 : ((w.alloc (.cells #[] 53)).alloc (.cells #[] 3)).ownsRow w.heap.size 53 3 (.slice (some ⟨w.heap.size, 0, none⟩) 0 0) 0 [] := (own_empty w _ 3 _ (Nat.le_refl _)).alloc _
    have hE1 : ((w.alloc (.cells #[] 53)).alloc (.cells #[] 3)).ownsRow w.heap.size 3 1 (.slice (some ⟨w.heap.size + 1, 0, none⟩) 0 0) 0 [] := own_empty' _ _ 1 _ (by simp) (by omega)
    have HY1 := Lib.hid hY1
    have HE1 := Lib.hid hE1
    clear hY1 hE1
    go_enter Try.func50, Try.ntmps50
    go_wp2_with fail
    refine (spec_owedValid _ _ _ _ _ h0 hl).mono ?_
    rintro e w' ⟨rfl, rfl⟩
    go_wp2_with (at_builtin; refine wpList_app _ rfl (.tmp 14) (.tmp 15) 22 rfl int_EI w.heap.size (.slice (some ⟨w.heap.size + 1, 0, none⟩) 0 0) 0 [] rfl HE1.out A xs.length c (ints xs) rfl (by rw [ints_length, Nat.mul_one]) h1 (ints_one xs) (le_max (by omega)) (by omega) bb.size ?_; intro v2 w2 hO2 hg2 _)
    have hY2 : w2.ownsRow w.heap.size 53 3 (.slice (some ⟨w.heap.size, 0, none⟩) 0 0) 0 (pays []) := HY1.out.kept hg2 (own_apart HY1.out HE1.out tn)
    have b2 := below_app bb HE1.out hg2
    rw [Nat.zero_add, List.nil_append] at hO2
    obtain ⟨A2, c2, rfl, -⟩ := own_form hO2
    clear hg2
    by_cases hz : xs.length = 0
    · have hx : xs = [] := List.eq_nil_of_length_eq_zero hz
      subst hx
      refine wp_loop_rounds 1 ?_
      rw [rounds_succ]
      go_wp2
      refine wp_loop_rounds 1 ?_
      rw [rounds_succ]
      go_wp2
      go_ret
      exact ⟨_, rfl, by rw [HV.out]; exact hY2, b2⟩
    · obtain ⟨g, rfl, hgb⟩ := own_head hO2 (by omega)
      have hzp : 0 < xs.length := by omega
      clear hz h1 h0 bb hi1
      go_loopw [3] (fun v wr => ∃ (ys : List PayT) (A0 : Option Addr) (c0 : Nat) (l : List Int) (m : Nat), v = .slice A0 ys.length c0 ∧ Opn xs.length l ∧ cnt l ≤ m ∧ ys.length + m ≤ xs.length ∧ Hid (settleF xs = ys ++ settleN m l) ∧
        wr.ownsRow w.heap.size 3 1 (.slice (some ⟨g, 0, none⟩) xs.length c2) xs.length (ints l) ∧ wr.ownsRow w.heap.size 53 3 (.slice A0 ys.length c0) ys.length (pays ys) ∧ Below w.heap.size w wr) (fun v _ => xs.length + 1 - sliceLen v)
      case atStart => exact ⟨[], _, 0, xs, cnt xs, rfl, HP.out, Nat.le_refl _, by have := cnt_le xs; simp; omega, by simp [Hid, settleF], hO2, hY2, b2⟩
      case round =>
        obtain ⟨ys, A0, c0, l, m, rfl, hop, hcm, hym, HS, hO, hY, hW⟩ := hrel
        have hll := hop.len
        have HLL := Lib.hid hll
        have hll2 : xs.length ≤ l.length := by omega
        clear hll
        obtain ⟨wo, rfl⟩ : ∃ wo : World, wo = wr := ⟨_, rfl⟩
        go_wp2
        go_loopw [5, 6, 7] (fun f t i wr => ∃ k : Nat, k ≤ xs.length ∧ i = .int .i64 k ∧ f = .int .i64 (fmin l k) ∧ t = .int .i64 (fmax l k) ∧ ∃ q, wr = wo.drewN q) (fun _ _ i _ => xs.length - (intOf i).toNat)
        case atStart => exact ⟨0, Nat.zero_le _, rfl, rfl, rfl, 0, rfl⟩
        case round =>
          obtain ⟨k, hk, rfl, rfl, rfl, q, rfl⟩ := hrel
          by_cases hlt : k < xs.length
          · obtain ⟨r1, -⟩ := row_at0 hO k (by omega)
            by_cases hk1 : at0 l k < 0
            · have d1 : decide (at0 l k < 0) = true := by simp; omega
              have d2 : decide (0 < at0 l k) = false := by simp; omega
              have ET := Lib.hid (fmax_keep l k (by omega))
              rcases fmin_cases l k with ⟨e1, -⟩ | ⟨f, e1, ef, hfk, hfn⟩
              · have EF := Lib.hid (fmin_new l k hk1 (.inl e1))
                rw [e1]
                clear e1
                go_wp2_with fail
                go_quiet (fail)
                go_wp2_with fail
                go_quiet (fail)
                go_wp2
                go_roundw
                case rel => exact ⟨k + 1, by omega, by go_num, by rw [EF.out], by rw [ET.out], _, rfl⟩
                case measure => simp [intOf]; omega
              · have hfx : f < xs.length := by omega
                obtain ⟨r2, -⟩ := row_at0 hO f (by omega)
                have d3 : decide ((f : Int) < 0) = false := by simp
                by_cases hc : at0 l k < at0 l f
                · have d4 : decide (at0 l k < at0 l f) = true := by simp; omega
                  have EF := Lib.hid (fmin_new l k hk1 (.inr (by rw [← ef]; exact hc)))
                  rw [e1]
                  clear e1 ef
                  go_wp2_with fail
                  go_quiet (fail)
                  go_wp2_with fail
                  go_quiet (fail)
                  go_wp2
                  go_roundw
                  case rel => exact ⟨k + 1, by omega, by go_num, by rw [EF.out], by rw [ET.out], _, rfl⟩
                  case measure => simp [intOf]; omega
                · have d4 : decide (at0 l k < at0 l f) = false := by simp; omega
                  have EF := Lib.hid (fmin_old l k f e1 (by rw [← ef]; omega))
                  rw [e1]
                  clear e1 ef hc
                  go_wp2_with fail
                  go_quiet (fail)
                  go_wp2_with fail
                  go_quiet (fail)
                  go_wp2
                  go_roundw
                  case rel => exact ⟨k + 1, by omega, by go_num, by rw [EF.out], by rw [ET.out], _, rfl⟩
                  case measure => simp [intOf]; omega
            · replace hk1 : 0 ≤ at0 l k := by omega
              have d1 : decide (at0 l k < 0) = false := by simp; omega
              have EF := Lib.hid (fmin_keep l k hk1)
              by_cases hk2 : 0 < at0 l k
              · have d2 : decide (0 < at0 l k) = true := by simp; omega
                rcases fmax_cases l k with ⟨e1, -⟩ | ⟨f, e1, ef, hfk, hfn⟩
                · have ET := Lib.hid (fmax_new l k hk2 (.inl e1))
                  rw [e1]
                  clear e1
                  go_wp2_with fail
                  go_quiet (fail)
                  go_wp2_with fail
                  go_quiet (fail)
                  go_wp2
                  go_roundw
                  case rel => exact ⟨k + 1, by omega, by go_num, by rw [EF.out], by rw [ET.out], _, rfl⟩
                  case measure => simp [intOf]; omega
                · have hfx : f < xs.length := by omega
                  obtain ⟨r2, -⟩ := row_at0 hO f (by omega)
                  have d3 : decide ((f : Int) < 0) = false := by simp
                  by_cases hc : at0 l f < at0 l k
                  · have d4 : decide (at0 l f < at0 l k) = true := by simp; omega
                    have ET := Lib.hid (fmax_new l k hk2 (.inr (by rw [← ef]; exact hc)))
                    rw [e1]
                    clear e1 ef
                    go_wp2_with fail
                    go_quiet (fail)
                    go_wp2_with fail
                    go_quiet (fail)
                    go_wp2
                    go_roundw
                    case rel => exact ⟨k + 1, by omega, by go_num, by rw [EF.out], by rw [ET.out], _, rfl⟩
                    case measure => simp [intOf]; omega
                  · have d4 : decide (at0 l f < at0 l k) = false := by simp; omega
                    have ET := Lib.hid (fmax_old l k f e1 (by rw [← ef]; omega))
                    rw [e1]
                    clear e1 ef hc
                    go_wp2_with fail
                    go_quiet (fail)
                    go_wp2_with fail
                    go_quiet (fail)
                    go_wp2
                    go_roundw
                    case rel => exact ⟨k + 1, by omega, by go_num, by rw [EF.out], by rw [ET.out], _, rfl⟩
                    case measure => simp [intOf]; omega
              · replace hk2 : at0 l k ≤ 0 := by omega
                have d2 : decide (0 < at0 l k) = false := by simp; omega
                have ET := Lib.hid (fmax_keep l k hk2)
                go_wp2_with fail
                go_quiet (fail)
                go_wp2_with fail
                go_quiet (fail)
                go_wp2
                go_roundw
                case rel => exact ⟨k + 1, by omega, by go_num, by rw [EF.out], by rw [ET.out], _, rfl⟩
                case measure => simp [intOf]; omega
          · have hkl : k = l.length := by have := HLL.out; omega
            rw [hkl]
            clear hkl hlt
            have mf := amin_lt l l.length (by omega)
            have mt := amax_lt l l.length (by omega)
            have mfx : amin l l.length < xs.length := by have := HLL.out; omega
            have mtx : amax l l.length < xs.length := by have := HLL.out; omega
            have hO := own_like hO (Y := wo.drewN q) rfl
            have hY := own_like hY (Y := wo.drewN q) rfl
            have hW := below_drewN hW q
            generalize wo.drewN q = wr at *
            by_cases hn : at0 l (amin l l.length) < 0
            · obtain ⟨q1, q2, q3, q4⟩ := hop.step hn
              obtain ⟨p1, p2, p3⟩ := hop.pos hn
              rw [fmin_on p1 hn, fmax_on p1 p2]
              have i1 := hop.inn _ (at0_mem mf)
              have i2 := hop.inn _ (at0_mem mt)
              obtain ⟨m', hm', hst⟩ := settleN_step hop hn m hcm
              obtain ⟨s, hs⟩ : ∃ s, min (-at0 l (amin l l.length)) (at0 l (amax l l.length)) = s := ⟨_, rfl⟩
              rw [hs] at q1 q2 q3 q4 hst
              have HST := Lib.hid hst
              have HQ3 := Lib.hid q3
              clear hst q3
              generalize amin l l.length = f at *
              generalize amax l l.length = t at *
              have d1 : decide ((f : Int) < 0) = false := by simp
              have d2 : decide ((t : Int) < 0) = false := by simp
              obtain ⟨⟨f1, f2, f3, f7, f4, f5⟩, f6, hO3, hY3⟩ := settle_facts hO hY f t s mf mt p3 i1 i2 ⟨q1, q2⟩
              have b3 := below_sc (below_sc hW (p := ⟨g, f, none⟩) hgb (.int .i64 (at0 l f + s))) (p := ⟨g, t, none⟩) hgb (.int .i64 (at0 l t - s))
              have HO3 := Lib.hid hO3
              have HY3 := Lib.hid hY3
              have HM := Lib.hid hm'
              have hml : ys.length + 1 ≤ xs.length := by omega
              have hmm : m' + 1 ≤ m := by omega
              clear hO hY hm' hO3 hY3
              by_cases hc : at0 l t < -at0 l f
              · have es : at0 l t = s := by omega
                have hd : decide (at0 l t < -at0 l f) = true := by simp; omega
                have ES := Lib.hid es
                clear es hs
                go_wp2_with fail
                go_quiet (fail)
                rw [ES.out]
                go_wp2_with (at_builtin; refine wpList_app _ rfl (.tmp 100) (.tmp 105) 31 rfl pay_EI w.heap.size (.slice A0 ys.length c0) ys.length (pays ys) rfl (HY3.out.alloc _) (some ⟨wr.heap.size, 0, none⟩) 1 1 [.int .i64 f, .int .i64 t, .int .i64 s] rfl rfl (rv_new' (by simp [World.setCell]) _ _) (one3 _ _ _) (le_max (by omega)) (by omega) (below_al b3 _).size ?_; intro v2 w2 hO2 hg2 hat)
                obtain ⟨A3, c3, rfl, -⟩ := own_form hO2
                go_roundw
                case rel => exact ⟨ys ++ [((f : Int), (t : Int), s)], A3, c3, settleStep l f t s, m', by simp, HQ3.out, by have := HM.out; omega, by have := HM.out; simp; omega, by show _ = _; rw [HS.out, HST.out]; simp, (settle_end rfl HO3.out HY3.out b3 hg2).1, OP.push' hO2, (settle_end rfl HO3.out HY3.out b3 hg2).2⟩
                case measure => simp [sliceLen]; omega
              · have es : -at0 l f = s := by omega
                have hd : decide (at0 l t < -at0 l f) = false := by simp; omega
                have ES := Lib.hid es
                clear es hs
                go_wp2_with fail
                go_quiet (fail)
                rw [ES.out]
                go_wp2_with (at_builtin; refine wpList_app _ rfl (.tmp 100) (.tmp 105) 31 rfl pay_EI w.heap.size (.slice A0 ys.length c0) ys.length (pays ys) rfl (HY3.out.alloc _) (some ⟨wr.heap.size, 0, none⟩) 1 1 [.int .i64 f, .int .i64 t, .int .i64 s] rfl rfl (rv_new' (by simp [World.setCell]) _ _) (one3 _ _ _) (le_max (by omega)) (by omega) (below_al b3 _).size ?_; intro v2 w2 hO2 hg2 hat)
                obtain ⟨A3, c3, rfl, -⟩ := own_form hO2
                go_roundw
                case rel => exact ⟨ys ++ [((f : Int), (t : Int), s)], A3, c3, settleStep l f t s, m', by simp, HQ3.out, by have := HM.out; omega, by have := HM.out; simp; omega, by show _ = _; rw [HS.out, HST.out]; simp, (settle_end rfl HO3.out HY3.out b3 hg2).1, OP.push' hO2, (settle_end rfl HO3.out HY3.out b3 hg2).2⟩
                case measure => simp [sliceLen]; omega
            · replace hn : 0 ≤ at0 l (amin l l.length) := by omega
              have HD := Lib.hid (settleN_done m l hn)
              have e1 : fmin l l.length = -1 := by unfold fmin; rw [if_neg (by omega)]
              rw [e1]
              clear e1
              go_wp2
              go_ret
              refine ⟨_, rfl, ?_, hW⟩
              rw [HV.out, HS.out, HD.out, List.append_nil]
              exact hY
end Go.Proofs.Ytgndokhehooplaa
