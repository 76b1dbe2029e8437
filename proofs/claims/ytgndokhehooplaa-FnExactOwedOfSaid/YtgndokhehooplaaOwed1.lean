/- OwedOf: the plain function; what the program computes. -/
import Derived.Test.YtgndokhehooplaaShare3
set_option linter.unusedVariables false
set_option linter.unusedSimpArgs false
namespace Go.Proofs.Ytgndokhehooplaa
open Go.ChangeShapes Go.WideShapes Go.ChangeAt Go.RowKit

def dif (p q : List Int) (k : Nat) : List Int := (List.range k).map fun j => at0 p j - at0 q j
theorem dif_length (p q : List Int) (k : Nat) : (dif p q k).length = k := by simp [dif]
theorem dif_succ (p q : List Int) (k : Nat) : dif p q (k + 1) = dif p q k ++ [at0 p k - at0 q k] := by simp [dif, List.range_succ]
def mixD (p q : List Int) (k : Nat) : List Int := dif p q k ++ p.drop k
theorem mixD_zero (p q : List Int) : mixD p q 0 = p := by simp [mixD, dif]
theorem mixD_length (p q : List Int) (k : Nat) (h : k ≤ p.length) : (mixD p q k).length = p.length := by simp [mixD, dif_length]; omega
theorem mixD_drop (p : List Int) (k : Nat) (h : k < p.length) : p.drop k = at0 p k :: p.drop (k + 1) := by rw [List.drop_eq_getElem_cons h, at0_eq h]
theorem mixD_at (p q : List Int) (k : Nat) (h : k < p.length) : at0 (mixD p q k) k = at0 p k := by
  have : (mixD p q k)[k]? = some (at0 p k) := by
    rw [mixD, mixD_drop p k h, List.getElem?_append_right (by rw [dif_length]; exact Nat.le_refl _), dif_length]; simp
  simp [at0, this]
theorem mixD_set (p q : List Int) (k : Nat) (h : k < p.length) : (mixD p q k).set k (at0 p k - at0 q k) = mixD p q (k + 1) := by
  rw [mixD, mixD_drop p k h, List.set_append_right _ _ (by rw [dif_length]; exact Nat.le_refl _), dif_length, Nat.sub_self, List.set_cons_zero, mixD, dif_succ]; simp
theorem mixD_end (p q : List Int) : mixD p q p.length = dif p q p.length := by simp [mixD]
def owedOk (xs ps : List Int) : Bool := sharesB xs && amtB ps xs.length 9999 && decide (ps.sum ≤ 9999)
def owedF (xs ps : List Int) : List Int := if owedOk xs ps then dif ps (shareF xs ps.sum) xs.length else []
theorem owedF_no {xs ps : List Int} (h : owedOk xs ps = false) : owedF xs ps = [] := by simp [owedF, h]
theorem owedF_yes {xs ps : List Int} (h : owedOk xs ps = true) : owedF xs ps = dif ps (shareF xs ps.sum) xs.length := by simp [owedF, h]
theorem amt_allS {xs : List Int} {m g : Int} (h : amtB xs m g = true) : (xs.length : Int) = m ∧ ∀ x ∈ xs, 0 ≤ x ∧ x ≤ g := by
  simp only [amtB, Bool.and_eq_true, decide_eq_true_eq, List.all_eq_true] at h
  refine ⟨h.1, fun x hx => ?_⟩
  have := h.2 x hx
  simpa [okB] using this
theorem at0_of {xs : List Int} {g : Int} (hg : 0 ≤ g) (h : ∀ x ∈ xs, 0 ≤ x ∧ x ≤ g) (k : Nat) : 0 ≤ at0 xs k ∧ at0 xs k ≤ g := by
  by_cases hk : k < xs.length
  · rw [← at0_eq hk]; exact h _ (List.getElem_mem hk)
  · simp [at0, hk]; exact hg
theorem sum_pos {xs : List Int} {g : Int} (hg : 0 ≤ g) (h : ∀ x ∈ xs, 0 ≤ x ∧ x ≤ g) : 0 ≤ xs.sum ∧ xs.sum ≤ g * xs.length := by
  have h1 := sum_bound xs g hg (fun x hx => by have := h x hx; omega)
  refine ⟨?_, h1.2⟩
  induction xs with
  | nil => simp
  | cons x t ih =>
    have := h x (by simp)
    have := ih (fun y hy => h y (by simp [hy])) (sum_bound t g hg (fun y hy => by have := h y (by simp [hy]); omega))
    simp only [List.sum_cons]; omega
theorem owed_parts {xs ps : List Int} (h : owedOk xs ps = true) : ps.length = xs.length ∧ (∀ k, 0 ≤ at0 ps k ∧ at0 ps k ≤ 9999) ∧ shareOk xs ps.sum = true ∧ (shareF xs ps.sum).length = xs.length ∧ (∀ k, 0 ≤ at0 (shareF xs ps.sum) k ∧ at0 (shareF xs ps.sum) k ≤ 200000) ∧ (1 ≤ xs.length ∧ xs.length ≤ 7) := by
  simp only [owedOk, Bool.and_eq_true, decide_eq_true_eq] at h
  obtain ⟨⟨h1, h2⟩, h3⟩ := h
  obtain ⟨h4, h5⟩ := amt_allS h2
  have h6 := (sum_pos (by omega) h5).1
  have hok : shareOk xs ps.sum = true := by rw [shareOk, h1, inB_true.2 ⟨h6, h3⟩]; rfl
  obtain ⟨s1, s2, s3, -⟩ := share_parts hok
  obtain ⟨l1, l2, -⟩ := left_bound (xs := xs) (s := ps.sum) s3
  refine ⟨by omega, at0_of (by omega) h5, hok, by rw [shareF_yes hok, partK_length], fun k => ?_, s1⟩
  rw [shareF_yes hok]
  exact partK_bound hok _ (by omega) k
theorem owedF_len (xs ps : List Int) : (owedF xs ps).length ≤ xs.length := by
  unfold owedF; split
  · rw [dif_length]; exact Nat.le_refl _
  · simp
set_option maxRecDepth 20000 in
set_option maxHeartbeats 16000000 in
theorem impl_owedOf (A A2 : Option Addr) (c c2 : Nat) (xs ps : List Int) (w : World) (h : IS w w.heap.size A xs) (h2 : IS w w.heap.size A2 ps) (hl : xs.length ≤ 1048576) (hl2 : ps.length ≤ 1048576) :
    Calls Try.prog 20 #[.slice A xs.length c, .slice A2 ps.length c2] w (RetI w (owedF xs ps)) := by
  cases hv : sharesB xs
  · have HE := Lib.hid (owedF_no (xs := xs) (ps := ps) (by simp [owedOk, hv]))
    go_enter Try.func20, Try.ntmps20
    go_wp2_with (go_at_call 42; refine (impl_sharesValid A c xs _ _ h hl).mono ?_; rintro e w1 ⟨rfl, rfl⟩)
    go_ret
    exact ⟨_, rfl, by rw [HE.out]; exact OI.nil _ _, Below.refl _ _⟩
  · cases ha : amtB ps xs.length 9999
    · have HE := Lib.hid (owedF_no (xs := xs) (ps := ps) (by simp [owedOk, ha]))
      go_enter Try.func20, Try.ntmps20
      go_wp2_with fail
      refine (impl_sharesValid A c xs _ _ h hl).mono ?_
      rintro e w1 ⟨rfl, rfl⟩
      rw [hv]
      go_wp2_with fail
      refine (amountsOk_any A2 c2 ps (xs.length : Int) 9999 _ _ h2 (by omega)).mono ?_
      rintro e w1 ⟨rfl, rfl⟩
      rw [ha]
      clear ha hv
      go_wp2
      go_ret
      exact ⟨_, rfl, by rw [HE.out]; exact OI.nil _ _, Below.refl _ _⟩
    · obtain ⟨hlen, hbp⟩ := amt_allS ha
      have hlp : ps.length = xs.length := by omega
      have hsp : 1 ≤ xs.length ∧ xs.length ≤ 7 := by
        simp only [sharesB, Bool.and_eq_true, inB_true] at hv
        omega
      obtain ⟨sp1, sp2⟩ := sum_pos (by omega) hbp
      have hmem : ∀ x ∈ ps, -1000000 ≤ x ∧ x ≤ 1000000 := fun x hx => by have := hbp x hx; omega
      have HM := Lib.hid hmem
      have HV := Lib.hid hv
      have HA := Lib.hid ha
      have hs7 : ps.sum ≤ 69993 := by rw [hlp] at sp2; omega
      have HLP := Lib.hid hlp
      by_cases hs : ps.sum ≤ 9999
      · have hok : owedOk xs ps = true := by rw [owedOk, hv, ha, decide_eq_true hs]; rfl
        have HE := Lib.hid (owedF_yes hok)
        obtain ⟨-, p2, p3, p4, p5, -⟩ := owed_parts hok
        have HP2 := Lib.hid p2
        have HP5 := Lib.hid p5
        have HFL := Lib.hid p4
        rw [HLP.out]
        have hd : decide ((9999 : Int) < ps.sum) = false := decide_eq_false (by omega)
        clear hmem hbp hlen ha hv hok p2 p3 p4 p5 sp2 hlp
        go_enter Try.func20, Try.ntmps20
        go_wp2_with fail
        refine (impl_sharesValid A c xs _ _ h hl).mono ?_
        rintro e w1 ⟨rfl, rfl⟩
        rw [HV.out]
        go_wp2_with fail
        have hq := amountsOk_any A2 c2 ps (xs.length : Int) 9999 _ _ h2 (by omega)
        rw [HLP.out, HA.out] at hq
        refine hq.mono ?_
        rintro e w1 ⟨rfl, rfl⟩
        clear hq
        have hsum := fun W B (hr : IS W B A2 ps) => sumOf_any A2 c2 ps W B hr hl2 HM.out
        rw [HLP.out] at hsum
        have HSUM := Lib.hid hsum
        clear hsum
        go_wp2_with fail
        refine (HSUM.out _ _ h2).mono ?_
        rintro e w1 ⟨rfl, rfl⟩
        generalize hss : ps.sum = sm at *
        go_wp2_with fail
        have hcp := copyInts_any A2 c2 ps _ h2 hl2
        rw [HLP.out] at hcp
        refine hcp.mono ?_
        rintro e w2 ⟨v2, rfl, o2, b2⟩
        clear hcp
        have o2' : w2.ownsRow w.heap.size 3 1 v2 xs.length (ints ps) := by
          have := o2
          rwa [OI, HLP.out] at this
        obtain ⟨A3, c3, rfl, -⟩ := own_form o2'
        obtain ⟨g, rfl, hg⟩ := own_head o2' (by omega)
        have hgl := (World.ownsRow.lt o2' g rfl).2
        have h3 := RV.step h b2
        have h23 := RV.step h2 b2
        clear o2
        go_wp2_with fail
        refine (HSUM.out _ _ h23).mono ?_
        rintro e w' ⟨rfl, rfl⟩
        clear hss
        go_wp2_with fail
        refine (impl_shareOf A c xs sm _ h3 hl).mono ?_
        rintro e w4 ⟨v4, rfl, o4, b4⟩
        have o4' : w4.ownsRow w2.heap.size 3 1 v4 xs.length (ints (shareF xs sm)) := by
          have := o4
          rwa [OI, HFL.out] at this
        obtain ⟨A4, c4, rfl, -⟩ := own_form o4'
        have o5 := own_below o2' b4
        have bel := below_step b2 b4
        clear o4 o2' b4 h3 h23 h2 h b2 hd
        generalize shareF xs sm = part at *
        go_wp2
        go_loopw [30] (fun i wr => ∃ k : Nat, k ≤ xs.length ∧ i = .int .i64 k ∧ wr.ownsRow w.heap.size 3 1 (.slice (some ⟨g, 0, none⟩) xs.length c3) xs.length (ints (mixD ps part k)) ∧ wr.ownsRow w2.heap.size 3 1 (.slice A4 xs.length c4) xs.length (ints part) ∧ Below w.heap.size w wr) (fun i _ => xs.length - (intOf i).toNat)
        case atStart => exact ⟨0, Nat.zero_le _, rfl, by rw [mixD_zero]; exact o5, o4', bel⟩
        case round =>
          clear o5 o4' bel
          obtain ⟨k, hk, rfl, hO, hP, hW⟩ := hrel
          by_cases hlt : k < xs.length
          · obtain ⟨b, off, rfl, hbl, hc⟩ := IS.at0_ (own_readsS hP) (by rw [HFL.out]; omega)
            have e1 := hc k (by rw [HFL.out]; exact hlt)
            obtain ⟨e2, f2⟩ := row_at0 hO k (by rw [mixD_length _ _ _ (by rw [HLP.out]; omega), HLP.out]; exact hlt)
            rw [mixD_at _ _ _ (by rw [HLP.out]; exact hlt)] at e2
            have b1 := HP2.out k
            have b2 := HP5.out k
            have HO2 := Lib.hid (row_set hO k (at0 ps k - at0 part k))
            have HST := Lib.hid (mixD_set ps part k (by rw [HLP.out]; exact hlt))
            have HQ2 := Lib.hid (own_setlt (p := ⟨g, k, none⟩) (u := .int .i64 (at0 ps k - at0 part k)) hP hgl)
            have HW2 : Hid (Below w.heap.size w (wr.setCell ⟨g, k, none⟩ (.int .i64 (at0 ps k - at0 part k)))) := Lib.hid (hW.setCell hg _)
            clear hc hO hP hW
            generalize at0 ps k = x at *
            generalize at0 part k = y at *
            go_wp2
            go_roundw
            case rel => exact ⟨k + 1, by omega, by go_num, by rw [← HST.out]; exact HO2.out, HQ2.out, HW2.out⟩
            case measure => (simp [intOf]) <;> omega
          · obtain rfl : k = xs.length := by omega
            have HEND := Lib.hid (mixD_end ps part)
            rw [HLP.out] at HEND
            have HO := Lib.hid hO
            clear hO hP
            go_wp2
            go_ret
            refine ⟨_, rfl, ?_, hW⟩
            rw [HE.out, OI, dif_length, ← HEND.out]
            exact HO.out
      · have HE := Lib.hid (owedF_no (xs := xs) (ps := ps) (by simp [owedOk, hs]))
        have hd : decide ((9999 : Int) < ps.sum) = true := decide_eq_true (by omega)
        rw [HLP.out]
        clear hmem hbp hlen ha hv sp2 hlp
        go_enter Try.func20, Try.ntmps20
        go_wp2_with fail
        refine (impl_sharesValid A c xs _ _ h hl).mono ?_
        rintro e w1 ⟨rfl, rfl⟩
        rw [HV.out]
        go_wp2_with fail
        have hq := amountsOk_any A2 c2 ps (xs.length : Int) 9999 _ _ h2 (by omega)
        rw [HLP.out, HA.out] at hq
        refine hq.mono ?_
        rintro e w1 ⟨rfl, rfl⟩
        clear hq
        have hsum := sumOf_any A2 c2 ps _ _ h2 hl2 HM.out
        rw [HLP.out] at hsum
        have HSUM := Lib.hid hsum
        clear hsum
        go_wp2_with fail
        refine HSUM.out.mono ?_
        rintro e w1 ⟨rfl, rfl⟩
        generalize ps.sum = sm at *
        go_wp2
        go_ret
        exact ⟨_, rfl, by rw [HE.out]; exact OI.nil _ _, Below.refl _ _⟩
end Go.Proofs.Ytgndokhehooplaa
