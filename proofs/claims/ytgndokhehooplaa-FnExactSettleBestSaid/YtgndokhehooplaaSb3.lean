/- SettleBest: what the program computes. -/
import Derived.Test.YtgndokhehooplaaSb2
set_option linter.unusedVariables false
set_option linter.unusedSimpArgs false
namespace Go.Proofs.Ytgndokhehooplaa
open Go.ChangeShapes Go.WideShapes Go.ChangeAt Go.RowKit

theorem pay_EIB : EI Try.prog 31 53 3 24 := EI.mk Try.underlying31 pay_info rfl (by omega)
theorem op_appB {w : World} {base n m : Nat} {v : Value} {xs ys : List PayT} (hn : xs.length = n) (hm : ys.length = m) (h : w.ownsRow base 53 3 v (n + m) (pays xs ++ pays ys)) : OP w base v (xs ++ ys) := by
  subst hn hm
  rw [OP, List.length_append, show pays (xs ++ ys) = pays xs ++ pays ys by simp [pays, flat]]
  exact h
set_option maxRecDepth 20000 in
set_option maxHeartbeats 8000000 in
theorem impl_settleBest (A : Option Addr) (c : Nat) (ow : List Int) (w : World) (h : IS w w.heap.size A ow) (hl : ow.length ≤ 1048576) :
    Calls Try.prog 22 #[.slice A ow.length c] w (RetP w (settleB ow)) := by
  cases hv : owedB ow
  · have HE := Lib.hid (settleB_no hv)
    go_enter Try.func22, Try.ntmps22
    go_wp2_with (go_at_call 34; refine (impl_owedValid A c ow _ _ h hl).mono ?_; rintro e w1 ⟨rfl, rfl⟩)
    go_ret
    exact ⟨_, rfl, by rw [HE.out]; exact OP.nil _ _, Below.refl _ _⟩
  · obtain ⟨h7, hb⟩ := owed_partsM hv
    have HV := Lib.hid hv
    have HB := Lib.hid hb
    clear hb
    have hcl := concR_lt ow
    obtain ⟨p1, p2⟩ := pow_small h7
    have HST := Lib.hid (fun T hT => settleB_tab (T := T) (T' := T) HV.out hT (fun _ _ => rfl))
    go_enter Try.func22, Try.ntmps22
    go_wp2_with (go_at_call 34; refine (impl_owedValid A c ow _ _ h hl).mono ?_; rintro e w1 ⟨rfl, rfl⟩)
    clear hv
    refine (groupTable_any A c ow _ h h7 HB.out).mono ?_
    rintro e w2 ⟨v2, T, rfl, o2, hTl, hTT, hTB, b2⟩
    have HR := Lib.hid (HST.out _ hTT)
    obtain ⟨A3, c3, rfl, hr3, -⟩ := OI.form o2
    obtain ⟨N, hN⟩ : ∃ N, 2 ^ ow.length = N := ⟨_, rfl⟩
    rw [hN] at hTl hcl p2
    rw [hTl]
    have HTL := Lib.hid hTl
    have HTB := Lib.hid hTB
    have h2 := RV.below h b2
    clear hTT hTB o2 hN p1 hTl
    go_wp2_with fail
    refine (concerned_any A c ow _ _ h2 h7).mono ?_
    rintro e w' ⟨rfl, rfl⟩
    obtain ⟨cc, hcc⟩ : ∃ cc, concR ow = cc := ⟨_, rfl⟩
    rw [hcc] at HR hcl ⊢
    clear hcc
    go_wp2
    go_loopw [4, 5] (fun v i wr => ∃ (r f : Nat) (v0 : Value) (acc : List PayT), r ≤ cc ∧ v0 = v ∧ i = .int .i64 (r : Int) ∧ r ≤ f ∧ f ≤ cc ∧ OP wr w2.heap.size v0 acc ∧ Hid (acc.length ≤ 7 * (cc - r)) ∧ Hid (settleB ow = acc ++ sbF (at0 T) ow f r) ∧ Below w2.heap.size w2 wr ∧ w.heap.size ≤ wr.heap.size) (fun _ i _ => (intOf i).toNat)
    case atStart => exact ⟨cc, cc, _, [], Nat.le_refl _, rfl, rfl, Nat.le_refl _, Nat.le_refl _, OP.nil _ _, Lib.hid (by simp), Lib.hid (by rw [HR.out]; rfl), Below.refl _ _, b2.size⟩
    case round =>
      obtain ⟨r, f, v, acc, hrc, rfl, rfl, hrf, hfc, hO, HAL, HS, hB, hsz⟩ := hrel
      by_cases hr0 : r = 0
      · subst hr0
        have HE := Lib.hid (show settleB ow = acc by rw [HS.out, sbF_zero, List.append_nil])
        have HO := Lib.hid hO
        clear hO
        go_wp2
        go_ret
        exact ⟨_, rfl, by rw [HE.out]; exact own_mono HO.out b2.size, b2.trans (hB.mono b2.size)⟩
      · have hrp : 0 < r := by omega
        have hrb : ((r : Int) == 0) = false := by rw [beq_eq_false_iff_ne]; omega
        have HSS := Lib.hid (sbF_step (at0 T) ow f r hrp hrf)
        obtain ⟨g1, g2, g3⟩ := lgF_sub (at0 T) hrp
        go_wp2_with fail
        refine (leastGroup_any A3 c3 N T r _ _ (RV.below hr3 hB) HTL.out (by omega) (by omega) hrp HTB.out).mono ?_
        rintro e w4 ⟨rfl, hq⟩
        have b4 : Below wr.heap.size wr w4 := by obtain ⟨q, rfl⟩ := hq; exact below_n q
        clear hq
        obtain ⟨g, hg⟩ : ∃ g, lgF (at0 T) r = g := ⟨_, rfl⟩
        rw [hg] at g1 g2 g3 HSS ⊢
        clear hg
        have hB4 := hB.trans (b4.mono hB.size)
        have hO4 : OP w4 w2.heap.size v acc := own_below hO b4
        clear hO b4
        have hBw := Lib.hid (b2.trans (hB4.mono b2.size))
        go_wp2_with fail
        refine (onlyOf_any A c ow g _ (RV.more (RV.below h hBw.out) hBw.out.size) h7 (by omega)).mono ?_
        rintro e w5 ⟨v5, rfl, o5, b5⟩
        obtain ⟨A5, c5, rfl, hr5, -⟩ := OI.form o5
        have HPL := Lib.hid (pickK_length ow g ow.length)
        have hO5 : OP w5 w2.heap.size v acc := own_below hO4 b5
        have hB5 := hB4.trans (b5.mono hB4.size)
        clear o5 hO4
        have hcall := impl_settleFast A5 c5 (pickK ow g ow.length) w5 hr5 (by rw [HPL.out]; omega)
        have hsl := settle_small (xs := pickK ow g ow.length) (by rw [HPL.out]; exact h7)
        rw [HPL.out] at hcall ⊢
        have HC := Lib.hid hcall
        clear hcall hr5
        go_wp2_with fail
        refine HC.out.mono ?_
        rintro e w6 ⟨v6, rfl, o6, b6⟩
        obtain ⟨m, hm⟩ : ∃ m, (settleR (pickK ow g ow.length)).length = m := ⟨_, rfl⟩
        rw [hm] at hsl
        have o6' := o6
        unfold OP at o6'
        rw [hm] at o6'
        obtain ⟨A6, c6, rfl, hr6, -⟩ := own_form o6'
        have HM := Lib.hid hm
        have hO6 : OP w6 w2.heap.size v acc := own_below hO5 b6
        obtain ⟨n, hn⟩ : ∃ n, acc.length = n := ⟨_, rfl⟩
        have hal := HAL.out
        rw [hn] at hal
        unfold OP at hO6
        rw [hn] at hO6
        have HNN := Lib.hid hn
        have hB6 := hB5.trans (b6.mono hB5.size)
        have hs6 := (hBw.out.trans ((below_step b5 b6).mono hBw.out.size)).size
        have hnot := andnot_i64 r g (by omega) g3
        have HPY := Lib.hid (pays_length (settleR (pickK ow g ow.length)))
        clear hm hn o6 o6' hO5 HC b5 b6 hB4 hB5
        have HG3 := Lib.hid g3
        clear g3
        generalize settleR (pickK ow g ow.length) = ys at *
        go_wp2_with (at_builtin; refine wpList_app _ rfl _ _ 31 rfl pay_EIB w2.heap.size v n (pays acc) rfl hO6 A6 m c6 (pays ys) rfl (by rw [HPY.out, HM.out]) hr6 (pays_one ys) (le_max (by omega)) (by omega) hB6.size ?_; intro v7 w7 hO7 hg7 hv7)
        have hO8 := Lib.hid (op_appB HNN.out HM.out hO7)
        have hB7 := Lib.hid (below_app hB6 hO6 hg7)
        have hs7 := Nat.le_trans hs6 hg7.size
        clear hO7 hg7 hv7 hO6 hB6
        go_roundw
        case rel => exact ⟨r - g, f - 1, _, acc ++ ys, by omega, rfl, rfl, by omega, by omega, hO8.out, Lib.hid (by rw [List.length_append, HNN.out, HM.out]; omega), Lib.hid (by rw [HS.out, HSS.out, List.append_assoc]), hB7.out, hs7⟩
        case measure => (simp [intOf]) <;> omega
end Go.Proofs.Ytgndokhehooplaa
