/- l5First; the plain function of SettleBest. -/
import Derived.Test.YtgndokhehooplaaSb1
import Derived.Test.YtgndokhehooplaaSf7
set_option linter.unusedVariables false
set_option linter.unusedSimpArgs false
namespace Go.Proofs.Ytgndokhehooplaa
open Go.ChangeShapes Go.WideShapes Go.ChangeAt Go.RowKit

theorem quiet_addB {P : Program} {f : FuncId} {args : Array Value} {w : World} {a n : Nat} {v : Value}
    (h : Calls P f args (w.drewN (a + n)) fun e w' => e = .returned v ∧ w.drewN (a + n) = w') :
    Calls P f args (w.drewN (a + n)) fun e w'' => e = .returned v ∧ ∃ m, w'' = w.drewN (a + m) :=
  h.mono fun _ _ ⟨he, hm⟩ => ⟨he, n, hm.symm⟩
theorem quiet_LB {P : Program} {f : FuncId} {args : Array Value} {w : World} {n : Nat} {v : Value}
    (h : Calls P f args (w.drewN n) fun e w' => e = .returned v ∧ w.drewN n = w') : Calls P f args (w.drewN n) fun e w'' => e = .returned v ∧ ∃ m, w'' = w.drewN m :=
  h.mono fun _ _ ⟨he, hm⟩ => ⟨he, n, hm.symm⟩
set_option maxRecDepth 20000 in
set_option maxHeartbeats 8000000 in
theorem l5First_any (A0 A : Option Addr) (n0 c0 c N : Nat) (T : List Int) (r : Nat) (w : World) (B : Nat) (h : IS w B A T) (hl : T.length = N) (hN : N ≤ 128) (hr : r < N) (hr0 : 0 < r) (hb : ∀ s : Nat, -1 ≤ at0 T s ∧ at0 T s ≤ 1000) :
    Calls Try.prog 49 #[.slice A0 n0 c0, .slice A N c, .int .i64 (r : Int)] w fun e w' => e = .returned (.int .i64 (lgF (at0 T) r : Int)) ∧ ∃ q, w' = w.drewN q := by
  have HL := Lib.hid hl
  have HB := Lib.hid hb
  clear hl hb
  go_enter Try.func49, Try.ntmps49
  go_wp2
  go_loopw [7] (fun i wr => ∃ (s f : Nat), 1 ≤ s ∧ s ≤ r + 1 ∧ i = .int .i64 (s : Int) ∧ r ≤ s + f ∧ Hid (lgF (at0 T) r = lgS (cG (at0 T) r) r f s) ∧ ∃ q, wr = w.drewN q) (fun i _ => r + 1 - (intOf i).toNat)
  case atStart => exact ⟨1, r, by omega, by omega, rfl, by omega, Lib.hid rfl, 0, rfl⟩
  case round =>
    obtain ⟨s, f, hs1, hsr, rfl, hf, HF, q, rfl⟩ := hrel
    by_cases hle : s ≤ r
    · obtain ⟨b, off, rfl, hbl, hc⟩ := IS.at0_ h (by rw [HL.out]; omega)
      have e1 := hc s (by rw [HL.out]; omega)
      have e2 := hc r (by rw [HL.out]; omega)
      have HME := Lib.hid (fun q => l1Meet_any s r (w.drewN q) (by omega) (by omega))
      have hsN : s < N := by omega
      have hb1 := HB.out s
      have hb2 := HB.out r
      by_cases hlt : s < r
      · have HMI := Lib.hid (fun hh => lgS_miss (cG (at0 T) r) r f s hlt hf hh)
        have hne : ((s : Int) == (r : Int)) = false := by rw [beq_eq_false_iff_ne]; omega
        have hne2 : (s == r) = false := by rw [beq_eq_false_iff_ne]; omega
        by_cases hsub : Sub s r
        · have hsr2 : s &&& r = s := hsub
          rw [hsr2] at HME
          have e3 := hc (r - s) (by rw [HL.out]; omega)
          have hsp : (r : Int) - (s : Int) = ((r - s : Nat) : Int) := by omega
          have hb3 := HB.out (r - s)
          have hrs : r - s < N := by omega
          have HC1 := Lib.hid (fun hh : ¬ at0 T s = 1 => cG_no2 (r := r) hh)
          have HC2 := Lib.hid (fun hh : ¬ at0 T (r - s) = at0 T r - 1 => cG_no3 hh)
          have HC3 := Lib.hid (fun h2 h3 => lgS_hit (cG (at0 T) r) r f s hlt hf (cG_yes hsub h2 h3))
          clear hc hsr2
          generalize at0 T s = x at *
          generalize at0 T (r - s) = y at *
          generalize at0 T r = z at *
          have hwz : IntKind.i64.wrap (z - 1) = z - 1 := by rw [IntKind.wrap_i64]; omega
          by_cases hx : x = 1
          · have hxb : (x == 1) = true := by rw [hx]; rfl
            by_cases hy : y = z - 1
            · have hyb : (y == z - 1) = true := by rw [hy]; exact beq_self_eq_true _
              have HR := Lib.hid (HC3.out hx hy)
              clear hx hy
              go_wp2_with fail
              go_quiet ((first | (go_at_call 66; exact quiet_addB (HME.out _)) | (go_at_call 66; exact quiet_LB (HME.out _))))
              go_wp2
              go_ret
              first | exact ⟨ret_int (by rw [HF.out, HR.out]), _, rfl⟩ | exact ⟨ret_int (by rw [HF.out, HR.out]), _, World.drewN_drewN _ _ _⟩
            · have hyb : (y == z - 1) = false := by rw [beq_eq_false_iff_ne]; exact hy
              have HR := Lib.hid (HMI.out (HC2.out hy))
              clear hx hy
              go_wp2_with fail
              go_quiet ((first | (go_at_call 66; exact quiet_addB (HME.out _)) | (go_at_call 66; exact quiet_LB (HME.out _))))
              go_wp2
              go_roundw
              case rel => first | exact ⟨s + 1, f - 1, by omega, by omega, by go_num, by omega, Lib.hid (by rw [HF.out, HR.out]), _, rfl⟩ | exact ⟨s + 1, f - 1, by omega, by omega, by go_num, by omega, Lib.hid (by rw [HF.out, HR.out]), _, World.drewN_drewN _ _ _⟩
              case measure => (simp [intOf]) <;> omega
          · have hxb : (x == 1) = false := by rw [beq_eq_false_iff_ne]; exact hx
            have HR := Lib.hid (HMI.out (HC1.out hx))
            clear hx
            go_wp2_with fail
            go_quiet ((first | (go_at_call 66; exact quiet_addB (HME.out _)) | (go_at_call 66; exact quiet_LB (HME.out _))))
            go_wp2
            go_roundw
            case rel => first | exact ⟨s + 1, f - 1, by omega, by omega, by go_num, by omega, Lib.hid (by rw [HF.out, HR.out]), _, rfl⟩ | exact ⟨s + 1, f - 1, by omega, by omega, by go_num, by omega, Lib.hid (by rw [HF.out, HR.out]), _, World.drewN_drewN _ _ _⟩
            case measure => (simp [intOf]) <;> omega
        · have hne3 : s &&& r ≠ s := hsub
          have HR := Lib.hid (HMI.out (cG_no1 hsub))
          clear hc hsub
          generalize s &&& r = m at *
          have hmb : ((m : Int) == (s : Int)) = false := by rw [beq_eq_false_iff_ne]; omega
          have hmb2 : (m == s) = false := by rw [beq_eq_false_iff_ne]; exact hne3
          generalize at0 T s = x at *
          generalize at0 T r = z at *
          go_wp2_with fail
          go_quiet ((first | (go_at_call 66; exact quiet_addB (HME.out _)) | (go_at_call 66; exact quiet_LB (HME.out _))))
          go_wp2
          go_roundw
          case rel => first | exact ⟨s + 1, f - 1, by omega, by omega, by go_num, by omega, Lib.hid (by rw [HF.out, HR.out]), _, rfl⟩ | exact ⟨s + 1, f - 1, by omega, by omega, by go_num, by omega, Lib.hid (by rw [HF.out, HR.out]), _, World.drewN_drewN _ _ _⟩
          case measure => (simp [intOf]) <;> omega
      · obtain rfl : s = r := by omega
        have hss : s &&& s = s := Nat.and_self s
        rw [hss] at HME
        have HR := Lib.hid (lgS_end (cG (at0 T) s) s f s (by omega))
        have HR2 := Lib.hid (lgS_end (cG (at0 T) s) s f (s + 1) (by omega))
        clear hc hss e2 hb2
        generalize at0 T s = x at *
        by_cases hx : x = 1
        · have hxb : (x == 1) = true := by rw [hx]; rfl
          clear hx
          go_wp2_with fail
          go_quiet ((first | (go_at_call 66; exact quiet_addB (HME.out _)) | (go_at_call 66; exact quiet_LB (HME.out _))))
          go_wp2
          go_ret
          first | exact ⟨ret_int (by rw [HF.out, HR.out]), _, rfl⟩ | exact ⟨ret_int (by rw [HF.out, HR.out]), _, World.drewN_drewN _ _ _⟩
        · have hxb : (x == 1) = false := by rw [beq_eq_false_iff_ne]; exact hx
          clear hx
          go_wp2_with fail
          go_quiet ((first | (go_at_call 66; exact quiet_addB (HME.out _)) | (go_at_call 66; exact quiet_LB (HME.out _))))
          go_wp2
          go_roundw
          case rel => first | exact ⟨s + 1, f, by omega, by omega, by go_num, by omega, Lib.hid (by rw [HF.out, HR.out, HR2.out]), _, rfl⟩ | exact ⟨s + 1, f, by omega, by omega, by go_num, by omega, Lib.hid (by rw [HF.out, HR.out, HR2.out]), _, World.drewN_drewN _ _ _⟩
          case measure => (simp [intOf]) <;> omega
    · obtain rfl : s = r + 1 := by omega
      have HR := Lib.hid (lgS_end (cG (at0 T) r) r f (r + 1) (by omega))
      go_wp2
      go_ret
      exact ⟨ret_int (by rw [HF.out, HR.out]), _, rfl⟩
/-- The payments, group by group (f: how many groups there may be). -/
def sbF (T : Nat → Int) (ow : List Int) : Nat → Nat → List PayT
  | 0, _ => []
  | f + 1, r => if r = 0 then [] else settleR (pickK ow (lgF T r) ow.length) ++ sbF T ow f (r - lgF T r)
theorem sbF_zero (T : Nat → Int) (ow : List Int) (f : Nat) : sbF T ow f 0 = [] := by cases f <;> simp [sbF]
theorem sbF_step (T : Nat → Int) (ow : List Int) (f r : Nat) (hr : 0 < r) (hf : r ≤ f) : sbF T ow f r = settleR (pickK ow (lgF T r) ow.length) ++ sbF T ow (f - 1) (r - lgF T r) := by
  obtain ⟨g, rfl⟩ : ∃ g, f = g + 1 := ⟨f - 1, by omega⟩
  rw [sbF, if_neg (by omega)]; rfl
theorem sbF_congr {T T' : Nat → Int} (ow : List Int) : ∀ (f r : Nat), (∀ s, Sub s r → T s = T' s) → sbF T ow f r = sbF T' ow f r
  | 0, _, _ => rfl
  | f + 1, r, h => by
    rw [sbF, sbF]
    by_cases hr : r = 0
    · rw [if_pos hr, if_pos hr]
    · rw [if_neg hr, if_neg hr, lgF_congr r h]
      obtain ⟨-, -, g3⟩ := lgF_sub T' (r := r) (by omega)
      rw [sbF_congr ow f (r - lgF T' r) (fun s hs => h s (sub_trans hs (sub_diff g3).1))]
def settleB (ow : List Int) : List PayT := if owedB ow then sbF (at0 (tabL ow (2 ^ ow.length - 1))) ow (concR ow) (concR ow) else []
theorem settleB_no {ow : List Int} (h : owedB ow = false) : settleB ow = [] := by simp [settleB, h]
theorem settleB_yes {ow : List Int} (h : owedB ow = true) : settleB ow = sbF (at0 (tabL ow (2 ^ ow.length - 1))) ow (concR ow) (concR ow) := by simp [settleB, h]
/-- Whatever table: the payments are the same. -/
theorem settleB_tab {ow : List Int} {T T' : Nat → Int} (h : owedB ow = true) (hT : IsTab ow T (2 ^ ow.length)) (he : ∀ s, Sub s (concR ow) → T' s = T s) : settleB ow = sbF T' ow (concR ow) (concR ow) := by
  rw [settleB_yes h]
  have hp := Nat.pow_pos (a := 2) (n := ow.length) (by omega)
  have h2 := tabL_ok ow (2 ^ ow.length - 1)
  rw [show 2 ^ ow.length - 1 + 1 = 2 ^ ow.length by omega] at h2
  refine sbF_congr ow _ _ fun s hs => ?_
  rw [he s hs]
  exact tab_same h2 hT s (Nat.lt_of_le_of_lt (sub_le hs) (concR_lt ow))
theorem settle_small {xs : List Int} (h : xs.length ≤ 7) : (settleR xs).length ≤ 7 := by
  unfold settleR
  split
  · have h1 := settleN_len (cnt xs) xs
    have h2 := cnt_le xs
    unfold settleF
    omega
  · simp
theorem sbF_len (T : Nat → Int) (ow : List Int) (h : ow.length ≤ 7) : ∀ f r, (sbF T ow f r).length ≤ 7 * f
  | 0, _ => by simp [sbF]
  | f + 1, r => by
    rw [sbF]
    split
    · simp
    · have h1 := settle_small (xs := pickK ow (lgF T r) ow.length) (by rw [pickK_length]; exact h)
      have h2 := sbF_len T ow h f (r - lgF T r)
      rw [List.length_append]; omega
theorem settleB_len (ow : List Int) (hl : ow.length ≤ 1048576) : (settleB ow).length ≤ 1048576 := by
  unfold settleB
  split
  · rename_i h
    have h7 := (owed_partsM h).1
    have h1 := concR_lt ow
    have h2 := (pow_small h7).2
    have h3 := sbF_len (at0 (tabL ow (2 ^ ow.length - 1))) ow h7 (concR ow) (concR ow)
    omega
  · simp
end Go.Proofs.Ytgndokhehooplaa
