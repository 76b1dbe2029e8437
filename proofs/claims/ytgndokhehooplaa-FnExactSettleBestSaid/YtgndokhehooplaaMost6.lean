/- groupTable, GroupsMost: what the program computes. -/
import Derived.Test.YtgndokhehooplaaMost5
set_option linter.unusedVariables false
set_option linter.unusedSimpArgs false
namespace Go.Proofs.Ytgndokhehooplaa
open Go.ChangeShapes Go.WideShapes Go.ChangeAt Go.RowKit

theorem own_likeM {w w' : World} {base n size : Nat} {e : TypeId} {v : Value} {cs : List Value} (h : w.ownsRow base e size v n cs) (hh : w'.heap = w.heap) : w'.ownsRow base e size v n cs := by
  refine ⟨h.1, ?_⟩
  rcases h.2 with h0 | ⟨g, cap, cur, hv, hb, hg, r⟩
  · exact .inl h0
  · exact .inr ⟨g, cap, cur, hv, hb, by rw [hh]; exact hg, r⟩
theorem tab_set {ow T : List Int} {s : Nat} {v : Int} (h : IsTab ow (at0 T) s) (hl : s < T.length) (hs : 0 < s) (hv : ValM ow (at0 T) s v) : IsTab ow (at0 (T.set s v)) (s + 1) := by
  have e : ∀ p, p < s → at0 T p = at0 (T.set s v) p := fun p hp => by rw [at0_set_ne _ _ _ _ (by omega)]
  refine ⟨by rw [← e 0 hs]; exact h.1, fun p hp hps => ?_⟩
  by_cases e2 : p = s
  · subst e2
    rw [at0_set_eq _ _ _ hl]; exact hv.congr e
  · rw [← e p (by omega)]
    exact (h.2 p hp (by omega)).congr fun q hq => e q (by omega)
theorem tbnd_set {T : List Int} {s : Nat} {v : Int} (h : TBnd T) (h1 : -1 ≤ v) (h2 : v ≤ s) : TBnd (T.set s v) := by
  intro k
  by_cases e : s = k
  · subst e
    by_cases hl : s < T.length
    · rw [at0_set_eq _ _ _ hl]; exact ⟨h1, h2⟩
    · rw [List.set_eq_of_length_le (by omega)]; exact h s
  · rw [at0_set_ne _ _ _ _ e]; exact h k
theorem at0_replM (n k : Nat) : at0 (List.replicate n 0) k = 0 := by
  simp only [at0, List.getD_eq_getElem?_getD, List.getElem?_replicate]
  split <;> rfl
theorem set_setM (T : List Int) (s : Nat) (a b : Int) : (T.set s a).set s b = T.set s b := by simp
set_option maxRecDepth 20000 in
set_option maxHeartbeats 8000000 in
theorem groupTable_any (A : Option Addr) (c : Nat) (ow : List Int) (w : World) (h : IS w w.heap.size A ow) (hl : ow.length ≤ 7) (hb : ∀ k, -9999 ≤ at0 ow k ∧ at0 ow k ≤ 9999) :
    Calls Try.prog 35 #[.slice A ow.length c] w (RetG w ow) := by
  have HB := Lib.hid hb
  clear hb
  obtain ⟨N, hN⟩ : ∃ N : Nat, 2 ^ ow.length = N := ⟨_, rfl⟩
  have hN7 : N ≤ 128 := by rw [← hN]; exact Nat.pow_le_pow_right (by omega) hl
  have hN1 : 1 ≤ N := by rw [← hN]; exact Nat.pow_pos (by omega)
  have hNI : (2 : Int) ^ ow.length = (N : Int) := by rw [← hN]; simp
  have hk64 : min ow.length 64 = ow.length := by omega
  have HN := Lib.hid hN
  have hmk := run_make_row' (P := Try.prog) 22 3 (.int .i64 0) 8 Try.underlying22 int_info rfl .i64 .i64 N (by omega) (by omega)
  have HMD := Lib.hid (blk_made w (.int .i64 0) N 3)
  clear hN
  go_enter Try.func35, Try.ntmps35
  go_wp2
  clear hmk
  go_loopw [4] (fun i wr => ∃ (s : Nat) (T : List Int), 1 ≤ s ∧ s ≤ N ∧ i = .int .i64 (s : Int) ∧ wr.ownsRow w.heap.size 3 1 (.slice (some ⟨w.heap.size, 0, none⟩) N N) N (ints T) ∧ Hid (T.length = N) ∧ Hid (IsTab ow (at0 T) s) ∧ Hid (TBnd T) ∧ Below w.heap.size w wr) (fun i _ => N - (intOf i).toNat)
  case atStart => exact ⟨1, List.replicate N 0, by omega, hN1, rfl, by have := HMD.out.own (base := w.heap.size) (n := N) (size := 1) (Nat.le_refl _) (by rw [filled_nil]; simp) (by simp [maxLen]; omega); rw [filled_nil, ← ints_replM] at this; exact this, Lib.hid (by simp), Lib.hid ⟨at0_replM N 0, fun s h1 h2 => by omega⟩, Lib.hid (fun k => by rw [at0_replM]; omega), below_al (Below.refl _ _) _⟩
  case round =>
    obtain ⟨s, T, hs1, hsN, rfl, hO, HL, HT, HTB, hW⟩ := hrel
    by_cases hlt : s < N
    · have HPU := Lib.hid (fun v hv => tab_set (v := v) HT.out (by rw [HL.out]; exact hlt) (by omega) hv)
      have HTP := Lib.hid (fun v h1 h2 => tbnd_set (s := s) (v := v) HTB.out h1 h2)
      obtain ⟨c1, f1⟩ := row_at0 hO s (by rw [HL.out]; exact hlt)
      have hO1 := row_set hO s (-1)
      have hW1 := hW.setCell (p := ⟨w.heap.size, s, none⟩) (Nat.le_refl _) (.int .i64 (-1))
      have h9 : IS (wr.setCell ⟨w.heap.size, s, none⟩ (.int .i64 (-1))) (wr.setCell ⟨w.heap.size, s, none⟩ (.int .i64 (-1))).heap.size A ow := RV.more (RV.below h hW1) hW1.size
      clear hO
      go_wp2_with fail
      refine (onlyOf_any A c ow s _ h9 hl (by omega)).mono ?_
      rintro e w2 ⟨v2, rfl, o2, b2⟩
      obtain ⟨A2, c2, rfl, hr2, -⟩ := OI.form o2
      have hO2 := own_below hO1 b2
      have hW2 := below_step hW1 b2
      clear o2 hO1 hW1 h9 b2
      have hsum := sumOf_any A2 c2 (pickK ow s ow.length) w2 _ hr2 (by rw [pickK_length]; omega) (pick_mem s HB.out)
      rw [pick_all] at hsum
      have HSUM := Lib.hid hsum
      clear hsum hr2
      go_wp2_with fail
      refine HSUM.out.mono ?_
      rintro e w' ⟨rfl, rfl⟩
      clear HSUM
      by_cases h0 : sumM ow s = 0
      · have H0 := Lib.hid h0
        rw [h0]
        clear h0
        obtain ⟨c2', f2⟩ := row_at0 hO2 s (by rw [List.length_set, HL.out]; exact hlt)
        have hO3 := row_set hO2 s 1
        rw [set_setM] at hO3
        have hW3 := hW2.setCell (p := ⟨w.heap.size, s, none⟩) (Nat.le_refl _) (.int .i64 1)
        have HO3 := Lib.hid hO3
        have HW3 := Lib.hid hW3
        have hsm : ((s : Int) - 1) = ((s - 1 : Nat) : Int) := by omega
        have hand0 := and_i64 (s - 1) s (by omega) (by omega)
        have HSB0 := Lib.hid (and_sub (s - 1) s)
        have hle0 : (s - 1) &&& s ≤ s - 1 := Nat.and_le_left
        have HNX0 := Lib.hid (fun q (hq : Sub q s) (hlt : q < s) => sub_next (sub_refl s) hq hlt)
        clear hO2 hO3 hW3
        obtain ⟨p0, hp0⟩ : ∃ p0, (s - 1) &&& s = p0 := ⟨_, rfl⟩
        rw [hp0] at hand0 HSB0 hle0 HNX0
        clear hp0
        go_wp2
        go_loopw [5] (fun i wx => ∃ (p : Nat) (bv : Int), p < s ∧ Hid (Sub p s) ∧ i = .int .i64 (p : Int) ∧ wx.ownsRow w.heap.size 3 1 (.slice (some ⟨w.heap.size, 0, none⟩) N N) N (ints (T.set s bv)) ∧ Hid (PartV ow (at0 T) s bv (fun q => p < q)) ∧ Below w.heap.size w wx) (fun i _ => (intOf i).toNat)
        case atStart => exact ⟨p0, 1, by omega, HSB0, rfl, HO3.out, Lib.hid (PartV.start _ _ _ (fun q d q1 q2 q3 => by have := HNX0.out q q3 q2; omega)), HW3.out⟩
        case round =>
          clear hand0 hle0 c1 f1 c2' f2
          obtain ⟨p, bv, hps, HSB, rfl, hO, HP, hWx⟩ := hrel
          have hble := HP.out.le HTB.out (by omega)
          have hbp := HP.out.pos
          by_cases hp0' : 0 < p
          · have hsl : s < (T.set s bv).length := by rw [List.length_set, HL.out]; exact hlt
            obtain ⟨cp1, -⟩ := row_at0 hO p (by rw [List.length_set, HL.out]; omega)
            rw [at0_set_ne _ _ _ _ (by omega)] at cp1
            obtain ⟨cs1, fs1⟩ := row_at0 hO s hsl
            rw [at0_set_eq _ _ _ (by rw [HL.out]; exact hlt)] at cs1
            obtain ⟨cr1, -⟩ := row_at0 hO (s - p) (by rw [List.length_set, HL.out]; omega)
            rw [at0_set_ne _ _ _ _ (by omega)] at cr1
            have hbd1 := HTB.out p
            have hbd2 := HTB.out (s - p)
            have hpm : ((p : Int) - 1) = ((p - 1 : Nat) : Int) := by omega
            have hand := and_i64 (p - 1) s (by omega) (by omega)
            have hnot := andnot_i64 s p (by omega) HSB.out
            have HSB2 := Lib.hid (and_sub (p - 1) s)
            have hle : (p - 1) &&& s ≤ p - 1 := Nat.and_le_left
            have HNX := Lib.hid (fun q (hq : Sub q s) (hlt : q < p) => sub_next HSB.out hq hlt)
            obtain ⟨p2, hp2⟩ : ∃ p2, (p - 1) &&& s = p2 := ⟨_, rfl⟩
            rw [hp2] at hand HSB2 hle HNX
            clear hp2
            have HTA := Lib.hid (fun h4 => HP.out.take (D' := fun q => p2 < q) hp0' hps HSB.out h4 (fun q hq hqs => by
              rcases Nat.lt_trichotomy q p with h5 | h5 | h5
              · have := HNX.out q hqs h5; omega
              · exact .inl h5
              · exact .inr h5))
            have HSK := Lib.hid (fun (hn : ¬ 1 ≤ at0 T p) => HP.out.skip (D' := fun q => p2 < q) (fun q hq _ _ h3 h4 => by
              rcases Nat.lt_trichotomy q p with h5 | h5 | h5
              · have := HNX.out q h3 h5; omega
              · subst h5; exact absurd h4 hn
              · exact h5))
            have hO5 := row_set hO s (max bv (at0 T p + at0 T (s - p)))
            rw [set_setM] at hO5
            have HO5 := Lib.hid hO5
            have HOO := Lib.hid hO
            have hW5 := Lib.hid (hWx.setCell (p := ⟨w.heap.size, s, none⟩) (Nat.le_refl _) (.int .i64 (max bv (at0 T p + at0 T (s - p)))))
            have hspn : s - p < N := by omega
            have hpN : p < N := by omega
            clear hO hO5 hsl
            generalize at0 T p = x at *
            generalize at0 T (s - p) = y at *
            by_cases hx : 1 ≤ x
            · have HR := Lib.hid (HTA.out hx)
              have hx0 : (0 : Int) < x := by omega
              have hwp : IntKind.i64.wrap (x + y) = x + y := by rw [IntKind.wrap_i64]; omega
              go_wp2_with fail
              go_still_tail 18, (by kernel_rfl)
              clear hwp
              go_wp2
              go_roundw
              case rel => exact ⟨p2, _, by omega, HSB2, rfl, own_likeM HO5.out rfl, HR, below_like hW5.out rfl⟩
              case measure => (simp [intOf]) <;> omega
            · have HR := Lib.hid (HSK.out hx)
              have hd : decide ((0 : Int) < x) = false := decide_eq_false (by omega)
              go_wp2
              go_roundw
              case rel => exact ⟨p2, bv, by omega, HSB2, rfl, HOO.out, HR, hWx⟩
              case measure => (simp [intOf]) <;> omega
          · obtain rfl : p = 0 := by omega
            have HV := Lib.hid (HPU.out _ (HP.out.all H0.out (fun q h _ _ => h)))
            have HV2 := Lib.hid (HTP.out bv (by omega) hble)
            have HO := Lib.hid hO
            clear hO
            go_wp2
            go_roundw
            case rel => exact ⟨s + 1, _, by omega, by omega, by go_num, HO.out, Lib.hid (by rw [List.length_set]; exact HL.out), HV, HV2, hWx⟩
            case measure => (simp [intOf]) <;> omega
      · have HV := Lib.hid (HPU.out (-1) ⟨fun _ => rfl, fun h => absurd h h0, fun h => absurd h h0, fun h => absurd h h0⟩)
        have HV2 := Lib.hid (HTP.out (-1) (by omega) (by omega))
        have h0b : (sumM ow s == 0) = false := by rw [beq_eq_false_iff_ne]; exact h0
        have HO2 := Lib.hid hO2
        clear hO2
        generalize sumM ow s = sm at *
        go_wp2
        go_roundw
        case rel => exact ⟨s + 1, _, by omega, by omega, by go_num, HO2.out, Lib.hid (by rw [List.length_set]; exact HL.out), HV, HV2, hW2⟩
        case measure => (simp [intOf]) <;> omega
    · obtain rfl : s = N := by omega
      have HO := Lib.hid hO
      clear hO
      go_wp2
      go_ret
      exact ⟨_, T, rfl, by rw [OI, HL.out]; exact HO.out, by rw [HL.out, HN.out], by rw [HN.out]; exact HT.out, HTB.out, hW⟩
set_option maxRecDepth 20000 in
set_option maxHeartbeats 4000000 in
theorem impl_groupsMost (A : Option Addr) (c : Nat) (ow : List Int) (w : World) (h : IS w w.heap.size A ow) (hl : ow.length ≤ 1048576) :
    Calls Try.prog 11 #[.slice A ow.length c] w fun e w' => e = .returned (.int .i64 (mostF ow)) ∧ Below w.heap.size w w' := by
  cases hv : owedB ow
  · have HE := Lib.hid (mostF_no hv)
    go_enter Try.func11, Try.ntmps11
    go_wp2_with (go_at_call 34; refine (impl_owedValid A c ow _ _ h hl).mono ?_; rintro e w1 ⟨rfl, rfl⟩)
    go_ret
    exact ⟨ret_int HE.out.symm, Below.refl _ _⟩
  · obtain ⟨h7, hb⟩ := owed_partsM hv
    have HV := Lib.hid hv
    have HB := Lib.hid hb
    clear hb
    have HLT := Lib.hid (concR_lt ow)
    have HME := Lib.hid (fun T hT => (concR_emb ow) ▸ most_emb (T := T) HV.out hT)
    obtain ⟨p1, p2⟩ := pow_small h7
    go_enter Try.func11, Try.ntmps11
    go_wp2_with (go_at_call 34; refine (impl_owedValid A c ow _ _ h hl).mono ?_; rintro e w1 ⟨rfl, rfl⟩)
    refine (groupTable_any A c ow _ h h7 HB.out).mono ?_
    rintro e w2 ⟨v2, T, rfl, o2, hTl, hTT, hTB, b2⟩
    have HR := Lib.hid (HME.out _ hTT)
    obtain ⟨A3, c3, rfl, hr3, -⟩ := OI.form o2
    obtain ⟨N, hN⟩ : ∃ N, 2 ^ ow.length = N := ⟨_, rfl⟩
    rw [hN] at hTl HLT p2
    rw [hTl]
    have HTL := Lib.hid hTl
    clear hTT hTB o2 hN p1 hTl hv
    go_wp2_with fail
    refine (concerned_any A c ow _ _ (RV.below h b2) h7).mono ?_
    rintro e w' ⟨rfl, rfl⟩
    obtain ⟨cc, hcc⟩ : ∃ cc, concR ow = cc := ⟨_, rfl⟩
    rw [hcc] at HR HLT ⊢
    have hclt := HLT.out
    obtain ⟨b, off, rfl, hbl, hc⟩ := IS.at0_ hr3 (by rw [HTL.out]; omega)
    have e1 := hc cc (by rw [HTL.out]; exact hclt)
    rw [HR.out] at e1
    clear hc hr3 hcc
    go_wp2
    go_ret
    exact ⟨rfl, b2⟩
end Go.Proofs.Ytgndokhehooplaa
