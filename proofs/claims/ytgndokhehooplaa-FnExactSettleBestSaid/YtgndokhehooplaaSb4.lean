/- SettleBest: what the reference computes. -/
import Derived.Test.YtgndokhehooplaaSb3
import Derived.Test.YtgndokhehooplaaLeast
set_option linter.unusedVariables false
set_option linter.unusedSimpArgs false
namespace Go.Proofs.Ytgndokhehooplaa
open Go.ChangeShapes Go.WideShapes Go.ChangeAt Go.RowKit

theorem pickS_take : ∀ (ow : List Int) (k s : Nat), k < ow.length → pickS (ow.take (k + 1)) s = pickS (ow.take k) s ++ (if s / 2 ^ k % 2 = 1 then [at0 ow k] else [])
  | [], k, s, h => absurd h (by simp)
  | x :: t, 0, s, h => by
    rw [List.take_succ_cons, List.take_zero, List.take_zero, pickS, pickS, Nat.pow_zero, Nat.div_one]
    have e : at0 (x :: t) 0 = x := rfl
    rw [e]
    split <;> simp [pickS]
  | x :: t, k + 1, s, h => by
    have := pickS_take t k (s / 2) (by simpa using h)
    rw [List.take_succ_cons, List.take_succ_cons, pickS, pickS, this, Nat.div_div_eq_div_mul, show 2 * 2 ^ k = 2 ^ (k + 1) by rw [Nat.pow_succ]; omega]
    have e : at0 (x :: t) (k + 1) = at0 t k := rfl
    rw [e]
    split <;> simp
def tF (T : Nat → Int) (ow : List Int) (s : Nat) : Int := if 0 ≤ T s then max (mostF (pickS ow s)) 0 else -1
def tbl (T : Nat → Int) (ow : List Int) (n : Nat) : List Int := (List.range n).map (tF T ow)
theorem tbl_length (T : Nat → Int) (ow : List Int) (n : Nat) : (tbl T ow n).length = n := by simp [tbl]
theorem tbl_succ (T : Nat → Int) (ow : List Int) (n : Nat) : tbl T ow (n + 1) = tbl T ow n ++ [tF T ow n] := by simp [tbl, List.range_succ]
theorem tbl_at (T : Nat → Int) (ow : List Int) (n s : Nat) (h : s < n) : at0 (tbl T ow n) s = tF T ow s := by
  rw [← at0_eq (by rw [tbl_length]; exact h)]; simp [tbl]
theorem tF_bnd (T : Nat → Int) (ow : List Int) (s : Nat) : -1 ≤ tF T ow s ∧ tF T ow s ≤ 1000 := by
  have := mostF_bnd (pickS ow s)
  unfold tF
  split <;> omega
theorem tbl_bnd (T : Nat → Int) (ow : List Int) (n s : Nat) : -1 ≤ at0 (tbl T ow n) s ∧ at0 (tbl T ow n) s ≤ 1000 := by
  by_cases h : s < n
  · rw [tbl_at _ _ _ _ h]; exact tF_bnd _ _ _
  · have : at0 (tbl T ow n) s = 0 := by
      have hl : (tbl T ow n).length ≤ s := by rw [tbl_length]; omega
      simp [at0, List.getElem?_eq_none hl]
    rw [this]; omega
/-- On sets of people with another number than 0 the reference's table is the table. -/
theorem tbl_same {ow : List Int} {T : Nat → Int} (h : owedB ow = true) (hT : IsTab ow T (2 ^ ow.length)) (s : Nat) (hs : Sub s (concR ow)) : at0 (tbl T ow (2 ^ ow.length)) s = T s := by
  have hlt : s < 2 ^ ow.length := Nat.lt_of_le_of_lt (sub_le hs) (concR_lt ow)
  rw [tbl_at _ _ _ _ hlt, tF]
  by_cases h0 : sumM ow s = 0
  · have hm := most_pick h hT s hlt hs h0
    have hp : 0 ≤ T s := by
      rcases Nat.eq_zero_or_pos s with e | e
      · subst e; rw [hT.1]; exact Int.le_refl _
      · have := (hT.2 s e hlt).pos h0; omega
    rw [if_pos hp, hm]; omega
  · have hp : 0 < s := by
      rcases Nat.eq_zero_or_pos s with e | e
      · subst e; exact absurd (sumM_zero ow) h0
      · exact e
    have := (hT.2 s hp hlt).no h0
    rw [this, if_neg (by omega)]
theorem tbl_yes {T : Nat → Int} (ow : List Int) {s : Nat} (h : 0 ≤ T s) : tbl T ow (s + 1) = tbl T ow s ++ [max (mostF (pickS ow s)) 0] := by rw [tbl_succ, tF, if_pos h]
theorem tbl_none {T : Nat → Int} (ow : List Int) {s : Nat} (h : ¬ 0 ≤ T s) : tbl T ow (s + 1) = tbl T ow s ++ [-1] := by rw [tbl_succ, tF, if_neg h]
theorem ownsB {w : World} {base n n' : Nat} {v : Value} {xs ys : List Int} {k : Int} (hn : n' = n + 1) (e : ys = xs ++ [k]) (h : w.ownsRow base 3 1 v (n + 1) (ints xs ++ [.int .i64 k])) : w.ownsRow base 3 1 v n' (ints ys) := by
  subst hn e
  rw [ints_append]; exact h
set_option maxRecDepth 20000 in
set_option maxHeartbeats 16000000 in
theorem spec_settleBest (A : Option Addr) (c : Nat) (ow : List Int) (w : World) (h : IS w w.heap.size A ow) (hl : ow.length ≤ 1048576) :
    Calls Try.prog 21 #[.slice A ow.length c] w (RetP w (settleB ow)) := by
  have hb0 : Below w.heap.size w (w.alloc (.cells #[] 53)) := below_al (Below.refl _ _) _
  have hO0 : (w.alloc (.cells #[] 53)).ownsRow w.heap.size 53 3 (.slice (some ⟨w.heap.size, 0, none⟩) 0 0) 0 [] := own_empty w _ 3 _ (Nat.le_refl _)
  have h' : IS (w.alloc (.cells #[] 53)) w.heap.size A ow := RV.below h hb0
  cases hv : owedB ow
  · have HE := Lib.hid (settleB_no hv)
    go_enter Try.func21, Try.ntmps21
    go_wp2_with (go_at_call 32; refine (spec_owedValid A c ow _ _ h' hl).mono ?_; rintro e w1 ⟨rfl, rfl⟩)
    go_ret
    exact ⟨_, rfl, by rw [HE.out]; exact hO0, hb0⟩
  · obtain ⟨h7, hb⟩ := owed_partsM hv
    have HV := Lib.hid hv
    have HB := Lib.hid hb
    clear hb
    go_enter Try.func21, Try.ntmps21
    go_wp2_with (go_at_call 32; refine (spec_owedValid A c ow _ _ h' hl).mono ?_; rintro e w1 ⟨rfl, rfl⟩)
    clear hv
    go_loop [4, 5] (fun st i => ∃ k : Nat, k ≤ ow.length ∧ i = .int .i64 k ∧ st = .int .i64 (concR (ow.take k) : Int)) (fun _ i => ow.length - (intOf i).toNat)
    case atStart => exact ⟨0, Nat.zero_le _, rfl, by simp [concR]⟩
    case round =>
      obtain ⟨k, hk, rfl, rfl⟩ := hrel
      by_cases hlt : k < ow.length
      · obtain ⟨b, off, rfl, hbl, hc⟩ := IS.at0_ h' (by omega)
        have e1 := hc k hlt
        have HS := Lib.hid (concR_take ow k hlt)
        have hcl := concR_tlt ow k
        obtain ⟨p1, p2⟩ := pow_small (show k ≤ 7 by omega)
        have hk64 : min k 64 = k := by omega
        have hPI : (2 : Int) ^ k = ((2 ^ k : Nat) : Int) := by simp
        clear hc
        generalize concR (ow.take k) = cc at *
        generalize 2 ^ k = P at *
        generalize at0 ow k = x at *
        by_cases hx : x = 0
        · subst hx
          have HR := Lib.hid (show concR (ow.take (k + 1)) = cc by rw [HS.out]; simp)
          go_wp2
          go_round
          case rel => exact ⟨k + 1, by omega, by go_num, by rw [HR.out]⟩
          case measure => (simp [intOf]) <;> omega
        · have hxb : (x == 0) = false := by rw [beq_eq_false_iff_ne]; exact hx
          have HR := Lib.hid (show concR (ow.take (k + 1)) = cc + P by rw [HS.out, if_neg hx])
          go_wp2
          go_round
          case rel => exact ⟨k + 1, by omega, by go_num, by first | (rw [HR.out]; go_num) | rw [HR.out]⟩
          case measure => (simp [intOf]) <;> omega
      · obtain rfl : k = ow.length := by omega
        rw [List.take_length]
        clear hk hlt
        go_wp2_with fail
        refine (l5Groups_any A c ow _ (RV.more h' hb0.size) h7 HB.out).mono ?_
        rintro e w2 ⟨v2, T, rfl, o2, hTl, hTT, hTB, b2⟩
        have HST := Lib.hid (settleB_tab (T := at0 T) (T' := at0 (tbl (at0 T) ow (2 ^ ow.length))) HV.out hTT (fun s hs => tbl_same HV.out hTT s hs))
        obtain ⟨A2, c2, rfl, hr2, -⟩ := OI.form o2
        have hcl := concR_lt ow
        obtain ⟨p1, p2⟩ := pow_small h7
        obtain ⟨N, hN⟩ : ∃ N, 2 ^ ow.length = N := ⟨_, rfl⟩
        rw [hN] at hTl hcl p1 p2 HST
        rw [hTl]
        have HTL := Lib.hid hTl
        have HTB := Lib.hid hTB
        have hO2 := own_below hO0 b2
        have hB2 := below_step hb0 b2
        have hs2 := b2.size
        clear hTT hTB o2 hN hTl hO0 b2 h' hb0
        obtain ⟨cc, hcc⟩ : ∃ cc, concR ow = cc := ⟨_, rfl⟩
        rw [hcc] at HST hcl ⊢
        clear hcc
        go_wp2
        go_loopw [7, 8] (fun v i wr => ∃ (s : Nat) (v0 : Value), s ≤ N ∧ v0 = v ∧ i = .int .i64 (s : Int) ∧ wr.ownsRow w2.heap.size 3 1 v0 s (ints (tbl (at0 T) ow s)) ∧ Below w2.heap.size w2 wr) (fun _ i _ => N - (intOf i).toNat)
        case atStart => exact ⟨0, _, Nat.zero_le _, rfl, rfl, own_empty w2 _ 1 _ (Nat.le_refl _), below_al (Below.refl _ _) _⟩
        case round =>
          obtain ⟨s, v, hsN, rfl, rfl, hO, hB⟩ := hrel
          by_cases hlt : s < N
          · have hBw := hB2.trans (hB.mono hB2.size)
            obtain ⟨wo, rfl⟩ : ∃ wo : World, wo = wr := ⟨_, rfl⟩
            have HO := Lib.hid hO
            clear hO
            go_wp2
            go_loopw [9, 10] (fun u i wx => ∃ (k : Nat) (u0 : Value), k ≤ ow.length ∧ u0 = u ∧ i = .int .i64 (k : Int) ∧ OI wx wo.heap.size u0 (pickS (ow.take k) s) ∧ Below wo.heap.size wo wx) (fun _ i _ => ow.length - (intOf i).toNat)
            case atStart => exact ⟨0, _, Nat.zero_le _, rfl, rfl, own_empty wo _ 1 _ (Nat.le_refl _), below_al (Below.refl _ _) _⟩
            case round =>
              obtain ⟨k, u, hk, rfl, rfl, hU, hW⟩ := hrel
              by_cases hlk : k < ow.length
              · obtain ⟨b, off, rfl, hbl, hc⟩ := IS.at0_ (RV.below h (hBw.trans (hW.mono hBw.size))) (by omega)
                have e1 := hc k hlk
                have HS := Lib.hid (pickS_take ow k s hlk)
                have hsh2 : (s : Int) / 2 ^ k = ((s / 2 ^ k : Nat) : Int) := by simp
                have hmod : ((s / 2 ^ k : Nat) : Int).tmod 2 = ((s / 2 ^ k % 2 : Nat) : Int) := Int.ofNat_tmod _ 2
                have hml := Nat.mod_lt (s / 2 ^ k) (show 0 < 2 by omega)
                have hdl := Nat.div_le_self s (2 ^ k)
                have hk64 : min k 64 = k := by omega
                have hnl := pickS_len (ow.take k) s
                have hnl2 : (ow.take k).length ≤ 7 := by rw [List.length_take]; omega
                clear hc
                generalize s / 2 ^ k % 2 = q at *
                generalize s / 2 ^ k = d at *
                generalize at0 ow k = x at *
                by_cases h1 : q = 1
                · subst h1
                  have HR := Lib.hid (show pickS (ow.take (k + 1)) s = pickS (ow.take k) s ++ [x] by rw [HS.out]; simp)
                  have hsz := hW.size
                  unfold OI at hU
                  obtain ⟨n, hn⟩ : ∃ n, (pickS (ow.take k) s).length = n := ⟨_, rfl⟩
                  rw [hn] at hU hnl
                  have HNN := Lib.hid hn
                  clear hn
                  go_wp2_with (at_builtin; refine wpList_app _ rfl _ _ 22 rfl int_EIM wo.heap.size u n _ rfl (hU.alloc _) (some ⟨_, 0, none⟩) 1 1 [.int .i64 x] rfl rfl (rv_new _ _ _) (one1 _) (le_max (by omega)) (by omega) (by simp; omega) ?_; intro v3 w3 hO3 hg3 hv3)
                  have hO4 := Lib.hid (oi_pushM HNN.out hO3)
                  have hb3 := Lib.hid (hW.trans (below_appM (w0 := wo) hsz (hU.alloc _) hg3))
                  clear hO3 hg3 hv3 hU
                  go_roundw
                  case rel => exact ⟨k + 1, _, by omega, rfl, by go_num, by rw [HR.out]; exact hO4.out, hb3.out⟩
                  case measure => (simp [intOf]) <;> omega
                · have h1b : ((q : Int) == 1) = false := by rw [beq_eq_false_iff_ne]; omega
                  have HR := Lib.hid (show pickS (ow.take (k + 1)) s = pickS (ow.take k) s by rw [HS.out, if_neg h1, List.append_nil])
                  have HU := Lib.hid hU
                  clear hU
                  go_wp2
                  go_roundw
                  case rel => exact ⟨k + 1, u, by omega, rfl, by go_num, by rw [HR.out]; exact HU.out, hW⟩
                  case measure => (simp [intOf]) <;> omega
              · obtain rfl : k = ow.length := by omega
                rw [List.take_length] at hU
                obtain ⟨A3, c3, rfl, hr3, -⟩ := OI.form hU
                have hnl := pickS_len ow s
                have hcall := spec_groupsMost A3 c3 (pickS ow s) wr hr3 (by omega)
                have HMB := mostF_bnd (pickS ow s)
                have HY := Lib.hid (fun hh => tbl_yes (T := at0 T) ow (s := s) hh)
                have HNO := Lib.hid (fun hh => tbl_none (T := at0 T) ow (s := s) hh)
                obtain ⟨b2, off2, rfl, hbl2, hc2⟩ := IS.at0_ (RV.below hr2 (hB.trans (hW.mono hB.size))) (by rw [HTL.out]; omega)
                have e2 := hc2 s (by rw [HTL.out]; exact hlt)
                have hx := HTB.out s
                have hO1 := own_below HO.out hW
                have hBx := hB.trans (hW.mono hB.size)
                clear hc2 hU
                generalize at0 T s = x at *
                obtain ⟨m, hm⟩ : ∃ m, (pickS ow s).length = m := ⟨_, rfl⟩
                rw [hm] at hcall ⊢
                have HC := Lib.hid hcall
                clear hcall hm hr3
                generalize mostF (pickS ow s) = mm at *
                have hsx := hBx.size
                by_cases h0 : 0 ≤ x
                · have h0d : decide (0 ≤ x) = true := decide_eq_true h0
                  have HR := Lib.hid (HY.out h0)
                  clear HY HNO
                  have HO1 := Lib.hid hO1
                  clear hO1
                  go_wp2_with fail
                  refine HC.out.mono ?_
                  rintro e w5 ⟨rfl, b5⟩
                  have hO5 := own_below HO1.out b5
                  have hB5 := Lib.hid (hBx.trans (b5.mono hBx.size))
                  have hs5 := hB5.out.size
                  clear HC b5 hBx hsx hW
                  go_wp2_with (at_builtin; refine wpList_app _ rfl _ _ 22 rfl int_EIM w2.heap.size v s _ rfl (hO5.alloc _) (some ⟨_, 0, none⟩) 1 1 [.int .i64 (max mm 0)] rfl rfl (rv_new _ _ _) (one1 _) (le_max (by omega)) (by omega) (by simp; omega) ?_; intro v3 w3 hO3 hg3 hv3)
                  have hO4 := Lib.hid (ownsB rfl HR.out hO3)
                  have hb3 := Lib.hid (hB5.out.trans (below_appM (w0 := w2) hs5 (hO5.alloc _) hg3))
                  clear hO3 hg3 hv3 hO5
                  go_roundw
                  case rel => exact ⟨s + 1, _, by omega, rfl, by go_num, hO4.out, hb3.out⟩
                  case measure => (simp [intOf]) <;> omega
                · have h0d : decide (0 ≤ x) = false := decide_eq_false h0
                  have HR := Lib.hid (HNO.out h0)
                  clear HY HNO HC hW
                  go_wp2_with (at_builtin; refine wpList_app _ rfl _ _ 22 rfl int_EIM w2.heap.size v s _ rfl (hO1.alloc _) (some ⟨_, 0, none⟩) 1 1 [.int .i64 (-1)] rfl rfl (rv_new _ _ _) (one1 _) (le_max (by omega)) (by omega) (by simp; omega) ?_; intro v3 w3 hO3 hg3 hv3)
                  have hO4 := Lib.hid (ownsB rfl HR.out hO3)
                  have hb3 := Lib.hid (hBx.trans (below_appM (w0 := w2) hsx (hO1.alloc _) hg3))
                  clear hO3 hg3 hv3 hO1
                  go_roundw
                  case rel => exact ⟨s + 1, _, by omega, rfl, by go_num, hO4.out, hb3.out⟩
                  case measure => (simp [intOf]) <;> omega
          · obtain rfl : N = s := by omega
            obtain ⟨A3, c3, rfl, -⟩ := own_form hO
            have hB5 := hB2.trans (hB.mono hB2.size)
            have hO5 : OP wr w.heap.size (.slice (some ⟨w.heap.size, 0, none⟩) 0 0) [] := own_below hO2 hB
            clear hr2 HTB HTL hO2 hB hB2 hs2
            have hmk := run_make_row' (P := Try.prog) 22 3 (.int .i64 0) 8 Try.underlying22 int_info rfl .i64 .i64 ow.length (by omega) (by omega)
            have HTD := Lib.hid (tbl_bnd (at0 T) ow N)
            have HTN := Lib.hid (tbl_length (at0 T) ow N)
            generalize tbl (at0 T) ow N = tb at *
            go_wp2
            go_loopw [3, 4] (fun v i wx => ∃ (r f : Nat) (v0 : Value) (acc : List PayT), r ≤ cc ∧ v0 = v ∧ i = .int .i64 (r : Int) ∧ r ≤ f ∧ f ≤ cc ∧ OP wx w.heap.size v0 acc ∧ Hid (acc.length ≤ 7 * (cc - r)) ∧ Hid (settleB ow = acc ++ sbF (at0 tb) ow f r) ∧ wx.ownsRow w2.heap.size 3 1 (.slice A3 N c3) N (ints tb) ∧ Below w.heap.size w wx) (fun _ i _ => (intOf i).toNat)
            case atStart => exact ⟨cc, cc, _, [], Nat.le_refl _, rfl, rfl, Nat.le_refl _, Nat.le_refl _, hO5, Lib.hid (by simp), Lib.hid (by rw [HST.out]; rfl), hO, hB5⟩
            case round =>
              clear hO hO5 hB5
              obtain ⟨r, f, v, acc, hrc, rfl, rfl, hrf, hfc, hO, HAL, HS, hTO, hB⟩ := hrel
              by_cases hr0 : r = 0
              · subst hr0
                have HE := Lib.hid (show settleB ow = acc by rw [HS.out, sbF_zero, List.append_nil])
                have HO := Lib.hid hO
                clear hO hTO hmk
                go_wp2
                go_ret
                exact ⟨_, rfl, by rw [HE.out]; exact HO.out, hB⟩
              · have hrp : 0 < r := by omega
                have hrd : decide (0 < r) = true := decide_eq_true hrp
                have hri : decide ((0 : Int) < (r : Int)) = true := decide_eq_true (by omega)
                have HSS := Lib.hid (sbF_step (at0 tb) ow f r hrp hrf)
                obtain ⟨g1, g2, g3⟩ := lgF_sub (at0 tb) hrp
                have HTO := Lib.hid hTO
                have HO := Lib.hid hO
                clear hTO hO
                go_wp2_with fail
                refine (l5First_any A A3 ow.length c c3 N tb r _ _ (own_readsM HTO.out) HTN.out (by omega) (by omega) hrp HTD.out).mono ?_
                rintro e w4 ⟨rfl, hq⟩
                have b4 : Below wr.heap.size wr w4 := by obtain ⟨q, rfl⟩ := hq; exact below_n q
                clear hq
                obtain ⟨g, hg⟩ : ∃ g, lgF (at0 tb) r = g := ⟨_, rfl⟩
                rw [hg] at g1 g2 g3 HSS ⊢
                clear hg
                have hB4 := hB.trans (b4.mono hB.size)
                have HO4 := Lib.hid (own_below HO.out b4)
                have HTO4 := Lib.hid (own_below HTO.out b4)
                have hsub : (r : Int) - (g : Int) = ((r - g : Nat) : Int) := by omega
                clear HO HTO b4 hB g3
                go_wp2
                go_loopw [13] (fun i wy => ∃ k : Nat, k ≤ ow.length ∧ i = .int .i64 k ∧ Blk wy w4.heap.size 3 (ints (pickK ow g k)) ∧ Below w4.heap.size w4 wy) (fun i _ => ow.length - (intOf i).toNat)
                case atStart => exact ⟨0, Nat.zero_le _, rfl, by rw [pickK_zero, ints_replM, ← filled_nil]; exact blk_made w4 _ _ _, (Below.refl _ _).alloc (Nat.le_refl _) _⟩
                case round =>
                  obtain ⟨k, hk, rfl, hK, hY⟩ := hrel
                  clear hmk
                  by_cases hlk : k < ow.length
                  · obtain ⟨b, off, rfl, hbl, hc⟩ := IS.at0_ (RV.below h (hB4.trans (hY.mono hB4.size))) (by omega)
                    have e1 := hc k hlk
                    have hsh2 : (g : Int) / 2 ^ k = ((g / 2 ^ k : Nat) : Int) := by simp
                    have hmod : ((g / 2 ^ k : Nat) : Int).tmod 2 = ((g / 2 ^ k % 2 : Nat) : Int) := Int.ofNat_tmod _ 2
                    have hml := Nat.mod_lt (g / 2 ^ k) (show 0 < 2 by omega)
                    have hdl := Nat.div_le_self g (2 ^ k)
                    have hk64 : min k 64 = k := by omega
                    have hcell := hK.cell k (by rw [ints_length, pickK_length]; exact hlk)
                    have hfr := hK.frozen k
                    have HY := Lib.hid (fun hb => pickK_yes ow g k hlk hb)
                    have HN := Lib.hid (fun hb => pickK_no ow g k hb)
                    have HK2 := Lib.hid (hK.set_ k (.int .i64 (at0 ow k)))
                    have HK := Lib.hid hK
                    clear hc hK
                    generalize at0 ow k = x at *
                    generalize g / 2 ^ k % 2 = q at *
                    generalize g / 2 ^ k = d at *
                    by_cases h1 : q = 1
                    · subst h1
                      have HR := Lib.hid (HY.out rfl)
                      go_wp2
                      go_roundw
                      case rel => exact ⟨k + 1, by omega, by go_num, by rw [← HR.out, ← ints_setM]; exact HK2.out, hY.setCell (Nat.le_refl _) _⟩
                      case measure => (simp [intOf]) <;> omega
                    · have h1b : ((q : Int) == 1) = false := by rw [beq_eq_false_iff_ne]; omega
                      have HR := Lib.hid (HN.out h1)
                      go_wp2
                      go_roundw
                      case rel => exact ⟨k + 1, by omega, by go_num, by rw [HR.out]; exact HK.out, hY⟩
                      case measure => (simp [intOf]) <;> omega
                  · obtain rfl : k = ow.length := by omega
                    have HPL := Lib.hid (pickK_length ow g ow.length)
                    have hr5 : IS wr wr.heap.size (some ⟨w4.heap.size, 0, none⟩) (pickK ow g ow.length) := by
                      have := hK.ownI (Nat.le_refl _) (by rw [pickK_length]; simp [maxLen]; omega)
                      exact own_readsM this
                    have HO5 := Lib.hid (own_below HO4.out hY)
                    have HTO5 := Lib.hid (own_below HTO4.out hY)
                    have hB5 := hB4.trans (hY.mono hB4.size)
                    have hcall := spec_settleFast (some ⟨w4.heap.size, 0, none⟩) ow.length (pickK ow g ow.length) wr hr5 (by rw [HPL.out]; omega)
                    have hsl := settle_small (xs := pickK ow g ow.length) (by rw [HPL.out]; exact h7)
                    rw [HPL.out] at hcall
                    have HC := Lib.hid hcall
                    clear hcall hr5 hK HO4 HTO4 hY hB4
                    go_wp2_with fail
                    refine HC.out.mono ?_
                    rintro e w6 ⟨v6, rfl, o6, b6⟩
                    obtain ⟨m, hm⟩ : ∃ m, (settleR (pickK ow g ow.length)).length = m := ⟨_, rfl⟩
                    rw [hm] at hsl
                    have o6' := o6
                    unfold OP at o6'
                    rw [hm] at o6'
                    obtain ⟨A6, c6, rfl, hr6, -⟩ := own_form o6'
                    have HM := Lib.hid hm
                    have hO6 : OP w6 w.heap.size v acc := own_below HO5.out b6
                    have hTO6 := own_below HTO5.out b6
                    have HAP := Lib.hid (own_apart hTO6 hO6 (by decide))
                    have HTO6 := Lib.hid hTO6
                    obtain ⟨n, hn⟩ : ∃ n, acc.length = n := ⟨_, rfl⟩
                    have hal := HAL.out
                    rw [hn] at hal
                    unfold OP at hO6
                    rw [hn] at hO6
                    have HNN := Lib.hid hn
                    have hB6 := hB5.trans (b6.mono hB5.size)
                    have HPY := Lib.hid (pays_length (settleR (pickK ow g ow.length)))
                    clear hm hn o6 o6' HC b6 hB5 hTO6 HO5 HTO5
                    generalize settleR (pickK ow g ow.length) = ys at *
                    go_wp2_with (at_builtin; refine wpList_app _ rfl _ _ 31 rfl pay_EIB w.heap.size v n (pays acc) rfl hO6 A6 m c6 (pays ys) rfl (by rw [HPY.out, HM.out]) hr6 (pays_one ys) (le_max (by omega)) (by omega) hB6.size ?_; intro v7 w7 hO7 hg7 hv7)
                    have hO8 := Lib.hid (op_appB HNN.out HM.out hO7)
                    have hB7 := Lib.hid (below_app hB6 hO6 hg7)
                    have hT7 := Lib.hid (HTO6.out.kept hg7 HAP.out)
                    clear hO7 hg7 hv7 hO6 hB6
                    go_roundw
                    case rel => exact ⟨r - g, f - 1, _, acc ++ ys, by omega, rfl, by first | rfl | go_num | rw [hsub], by omega, by omega, hO8.out, Lib.hid (by rw [List.length_append, HNN.out, HM.out]; omega), Lib.hid (by rw [HS.out, HSS.out, List.append_assoc]), hT7.out, hB7.out⟩
                    case measure => (simp [intOf]) <;> omega
end Go.Proofs.Ytgndokhehooplaa
