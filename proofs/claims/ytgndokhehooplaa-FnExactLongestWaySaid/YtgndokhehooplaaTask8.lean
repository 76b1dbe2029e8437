/- LongestWay: what the reference computes. -/
import Derived.Test.YtgndokhehooplaaTask7
set_option linter.unusedVariables false
set_option linter.unusedSimpArgs false
namespace Go.Proofs.Ytgndokhehooplaa
open Go.ChangeShapes Go.WideShapes Go.ChangeAt Go.RowKit

theorem earlyF_nil {ts : List Tsk} (h : ¬ (tasksB ts = true ∧ 0 < ts.length)) : earlyF ts = [] ∧ wayF ts = [] := by
  cases hs : tasksB ts
  · exact ⟨earlyF_no hs, wayF_no hs⟩
  · have hp : ts = [] := List.eq_nil_of_length_eq_zero (by
      rcases Nat.eq_zero_or_pos ts.length with e | e
      · exact e
      · exact absurd ⟨hs, e⟩ h)
    subst hp
    exact ⟨by rw [earlyF_yes hs]; rfl, wayF_nil rfl⟩
theorem meets_last {ts : List Tsk} (h : tasksB ts = true) (hp : 0 < ts.length) : ¬ noneTo ts (early ts ts.length) (endF ts) (idx ts.length) ts.length := by
  intro hn
  obtain ⟨b, h1, h2, h3⟩ := last_is h hp
  have := hn b h2
  rw [idx_at0 _ _ h2, meets, Int.toNat_natCast] at this
  simp at this
  omega
theorem meets_step {ts : List Tsk} (h : tasksB ts = true) {a : Nat} (ha : a < ts.length) (hp : 0 < at0 (early ts ts.length) a) : ¬ noneTo ts (early ts ts.length) (at0 (early ts ts.length) a) (tat ts a).2 (tat ts a).2.length := by
  intro hn
  obtain ⟨b, h1, h2, ⟨j, hj, h3, h4⟩, h5⟩ := step_is h ha hp
  have := hn j hj
  rw [h4, meets, Int.toNat_natCast] at this
  simp at this
  omega
theorem oe_reads {w : World} {base n c : Nat} {A : Option Addr} {xs : List Int} (h : w.ownsRow base 3 1 (.slice A n c) n (ints xs)) : IS w w.heap.size A xs := by
  obtain ⟨A', c', hv, hr, _⟩ := own_form h
  injection hv with h1 _ _
  subst h1
  exact hr
theorem apart_none {A : Option Addr} {n c lo hi : Nat} {v : Value} (h1 : Hid (∀ k, (Value.slice A n c).ownBlock = some k → lo < k ∧ k < hi)) (h2 : Hid (∀ g, v.ownBlock = some g → g = lo ∨ hi ≤ g)) : (Value.slice A n c).ownBlock = none ∨ (Value.slice A n c).ownBlock ≠ v.ownBlock := by
  cases hb : (Value.slice A n c).ownBlock with
  | none => exact .inl rfl
  | some k =>
    refine .inr fun e => ?_
    have a1 := h1.out k hb
    have a2 := h2.out k e.symm
    omega
theorem oi_oneT {w : World} {base : Nat} {v : Value} {k : Int} (h : w.ownsRow base 3 1 v (0 + 1) (ints [] ++ [.int .i64 k])) : OI w base v [k] := h
set_option maxRecDepth 20000 in
set_option maxHeartbeats 16000000 in
theorem spec_longestWay (A : Option Addr) (c : Nat) (ts : List Tsk) (w : World) (h : ST w w.heap.size A ts) (hl : ts.length + totT ts ≤ 1048576) :
    Calls Try.prog 27 #[.slice A ts.length c] w (RetI w (wayF ts)) := by
  have hb0 := below_al (Below.refl w.heap.size w) (.cells #[] 3)
  have h0 := (h.below hb0).more hb0.size
  by_cases hc0 : tasksB ts = true ∧ 0 < ts.length
  · obtain ⟨hs, hp⟩ := hc0
    have HWF := Lib.hid (wayF_yes hs hp)
    have HS := Lib.hid hs
    have h7 := tasks_len hs
    have HEY := Lib.hid (earlyF_yes hs)
    have HEL := Lib.hid (early_length ts ts.length)
    have HEB := Lib.hid (fun a => early_bound hs ts.length a)
    have HSP := Lib.hid (fun a => task_span hs a)
    have HML := Lib.hid (meets_last hs hp)
    have HEN := Lib.hid (endF_bound hs)
    clear hs
    go_enter Try.func27, Try.ntmps27
    go_wp2_with fail
    refine (spec_startsEarly A c ts _ h0 hl).mono ?_
    rintro e w2 ⟨v2, rfl, o2, b2⟩
    rw [HEY.out] at o2
    obtain ⟨A2, c2, rfl, -⟩ := o2.form
    unfold OI at o2
    have b02 := below_step hb0 b2
    have h2 := (h0.below b2).more b2.size
    have hO0 := own_below (own_empty w 3 1 _ (Nat.le_refl _)) b2
    have hlt2 := fun k hk => (World.ownsRow.lt o2 k hk)
    clear b2 h0 hb0
    rw [HEL.out] at o2 hlt2 ⊢
    go_wp2_with fail
    refine (spec_tasksEnd A c ts _ h2 hl).mono ?_
    rintro e w4 ⟨rfl, b4⟩
    have b04 := below_step b02 b4
    have hO4 := own_below hO0 b4
    have oe := own_below o2 b4
    have b4s := b4.size
    have HAP : Hid (∀ k, (Value.slice A2 ts.length c2).ownBlock = some k → w.heap.size < k ∧ k < w4.heap.size) := Lib.hid (fun k hk => by have := hlt2 k hk; simp at this; omega)
    clear b4 h2 b02 hO0 o2 hlt2 b4s
    have h4s := b04.size
    obtain ⟨he0, he1⟩ := HEN.out
    have HMF := Lib.hid (fun k (hn : noneTo ts (early ts ts.length) (endF ts) (idx ts.length) k) hk hm => endAt_found ts (early ts ts.length) (endF ts) (idx ts.length) k hn hk hm)
    have HMT : Hid (∀ k : Nat, meets ts (early ts ts.length) (endF ts) k = (at0 (early ts ts.length) k + (tat ts k).1 == endF ts)) := Lib.hid (fun k => by rw [meets, Int.toNat_natCast])
    have HLW : Hid (lastW ts = endAt ts (early ts ts.length) (endF ts) (idx ts.length)) := Lib.hid rfl
    generalize hE : endF ts = E at *
    clear hE
    go_wp2
    go_loopw [3, 6] (fun v s wr => ∃ (k : Nat) (v0 : Value) (L : List Int), k ≤ ts.length ∧ v0 = v ∧ s = .int .i64 (k : Int) ∧ OI wr w.heap.size v0 L ∧ ((L = [] ∧ Hid (noneTo ts (early ts ts.length) E (idx ts.length) k)) ∨ (Hid (L = [lastW ts]) ∧ L.length = 1)) ∧ Below w.heap.size w wr ∧ w4.heap.size ≤ wr.heap.size ∧ Hid (∀ g, v0.ownBlock = some g → g = w.heap.size ∨ w4.heap.size ≤ g) ∧ Hid (wr.ownsRow (w.heap.size + 1) 3 1 (.slice A2 ts.length c2) ts.length (ints (early ts ts.length)))) (fun _ s _ => ts.length - (intOf s).toNat)
    case atStart => exact ⟨0, _, [], by omega, rfl, by go_num, hO4, .inl ⟨rfl, Lib.hid (fun k hk => by omega)⟩, b04, Nat.le_refl _, Lib.hid (fun g hg => by simp [Value.ownBlock] at hg; exact .inl hg.symm), Lib.hid (own_mono oe (by simp))⟩
    case round =>
      obtain ⟨k, v, L, hk, rfl, rfl, hO, hL, hW, hW4, HV, HOE⟩ := hrel
      clear hO4 oe
      by_cases hlt : k < ts.length
      · rcases hL with ⟨rfl, HN⟩ | ⟨HL, hl1⟩
        · obtain ⟨A3, c3, rfl, r3, -⟩ := OI.form hO
          obtain ⟨b, off, rfl, hbl, hc⟩ := (h.below hW).atT hp
          obtain ⟨hck0, -⟩ := hc k hlt
          obtain ⟨b2, off2, rfl, hbl2, hc2⟩ := IS.at0_ (oe_reads HOE.out) (by rw [HEL.out]; omega)
          have hya := hc2 k (by rw [HEL.out]; omega)
          have hbd1 := HEB.out k
          have hbd2 := HSP.out k
          have HM := Lib.hid (HMT.out k)
          have HF := Lib.hid (fun hm => HMF.out k HN.out (by rw [idx_length]; exact hlt) (by rw [idx_at0 _ _ hlt]; exact hm))
          have HNS := Lib.hid (fun hm => noneTo_succ HN.out (by rw [idx_at0 _ _ hlt]; exact hm))
          rw [idx_at0 _ _ hlt] at HF
          have HO2 := Lib.hid (show ∀ n, (wr.drewN n).ownsRow w.heap.size 3 1 (.slice A3 0 c3) 0 (ints []) from fun n => own_below hO (below_n n))
          have HOE2 := Lib.hid (show ∀ n, (wr.drewN n).ownsRow (w.heap.size + 1) 3 1 _ ts.length (ints (early ts ts.length)) from fun n => own_below HOE.out (below_n n))
          clear hc hc2 hO r3
          generalize at0 (early ts ts.length) k = y at *
          generalize (tat ts k).1 = s at *
          have hwp : IntKind.i64.wrap (y + s) = y + s := by rw [IntKind.wrap_i64]; omega
          cases hm : (y + s == E)
          · have HR := Lib.hid (HNS.out (by rw [HM.out, hm]))
            go_wp2_with fail
            go_quiet (fail)
            go_wp2
            go_roundw
            case rel => exact ⟨k + 1, _, [], by omega, rfl, by go_num, HO2.out _, .inl ⟨rfl, HR⟩, below_drewN hW _, hW4, HV, Lib.hid (HOE2.out _)⟩
            case measure => (simp [intOf]) <;> omega
          · have HR := Lib.hid (HF.out (by rw [HM.out, hm]))
            have hsz := hW.size
            go_wp2_with fail
            go_quiet (fail)
            go_wp2_with (at_builtin; refine wpList_app _ rfl (.tmp 38) (.tmp 40) 22 rfl int_EIT w.heap.size (.slice A3 0 c3) 0 _ rfl ((HO2.out _).alloc _) (some ⟨_, 0, none⟩) 1 1 [.int .i64 k] rfl rfl (rv_new _ _ _) (one1 _) (le_max (by omega)) (by omega) (by simp; omega) ?_; intro v3 w3 hO3 hg3 hv3)
            have hgs := hg3.size
            go_roundw
            case rel => exact ⟨k + 1, _, [(k : Int)], by omega, rfl, by go_num, oi_oneT hO3, .inr ⟨Lib.hid (by rw [HLW.out, HR.out]), rfl⟩, (below_drewN hW _).trans (below_appT (w0 := w) (by simp; omega) ((HO2.out _).alloc _) hg3), by simp at hgs; omega, Lib.hid (fun g hg => by rcases hv3 with e | e <;> rw [e] at hg; exact HV.out g hg; simp at hg; omega), Lib.hid (World.ownsRow.kept ((HOE2.out _).alloc _) hg3 (apart_none HAP HV))⟩
            case measure => (simp [intOf]) <;> omega
        · obtain ⟨A3, c3, rfl, r3, -⟩ := OI.form hO
          have HO2 := Lib.hid (show ∀ n, OI (wr.drewN n) w.heap.size (.slice A3 L.length c3) L from fun n => hO.below (below_n n))
          have HOE2 := Lib.hid (show ∀ n, (wr.drewN n).ownsRow (w.heap.size + 1) 3 1 _ ts.length (ints (early ts ts.length)) from fun n => own_below HOE.out (below_n n))
          have HL1 := Lib.hid hl1
          rw [hl1]
          clear hO r3 hl1
          go_wp2_with fail
          go_quiet (fail)
          go_wp2
          go_roundw
          case rel => exact ⟨k + 1, _, L, by omega, by rw [HL1.out], by go_num, HO2.out _, .inr ⟨HL, HL1.out⟩, below_drewN hW _, hW4, HV, Lib.hid (HOE2.out _)⟩
          case measure => (simp [intOf]) <;> omega
      · obtain rfl : k = ts.length := by omega
        rcases hL with ⟨rfl, HN⟩ | ⟨HL, hl1⟩
        · exact absurd HN.out HML.out
        · have hOL : OI wr w.heap.size v [lastW ts] := by rw [← HL.out]; exact hO
          obtain ⟨a0, ha0, ha0l, -⟩ := last_is HS.out hp
          rw [ha0] at hOL HWF
          have h5 := (h.below hW).tight
          have r5 := oe_reads HOE.out
          have hOL2 : OI wr w.heap.size v [(a0 : Int)] := hOL
          obtain ⟨w5, rfl⟩ : ∃ w5 : World, w5 = wr := ⟨_, rfl⟩
          have hW5 := hW.size
          clear hO hOL HOE HV HL hl1 hk hlt HMF HMT HLW HML hW4 HAP ha0 HEN he0 he1
          have hB5 := Lib.hid hW
          clear hW h4s b04 h
          obtain ⟨Av, cv, rfl, -⟩ := OI.form hOL2
          go_wp2
          go_loopw [3] (fun v wr => ∃ (f a : Nat) (v0 : Value) (L : List Int), v0 = v ∧ a < ts.length ∧ a ≤ f ∧ a + L.length < ts.length ∧ lenV v0 = L.length + 1 ∧ OI wr w.heap.size v0 ((a : Int) :: L) ∧ Hid (wayF ts = wayR ts (early ts ts.length) f a ++ L) ∧ Below w5.heap.size w5 wr) (fun v _ => ts.length + 1 - lenV v)
          case atStart => exact ⟨ts.length, a0, _, [], rfl, ha0l, by omega, by simpa using ha0l, rfl, hOL2, Lib.hid (by rw [HWF.out]; simp), Below.refl _ _⟩
          case round =>
            clear hOL2
            obtain ⟨f, a, v0, L, rfl, hat, haf, haL, hlen, hO, HW, hB⟩ := hrel
            obtain ⟨A3, c3, rfl, r3, -⟩ := OI.form hO
            obtain ⟨m, hm⟩ : ∃ m, ((a : Int) :: L).length = m := ⟨_, rfl⟩
            have hm1 : m = L.length + 1 := by rw [← hm]; rfl
            have hm0 : (0 : Int) < (m : Int) := by omega
            have hm0n : 0 < m := by omega
            obtain ⟨b3, off3, rfl, hbl3, hc3⟩ := IS.at0_ r3 (by simp)
            have hout : wr.cell? ⟨b3, off3, none⟩ = some (.int .i64 a) := hc3 0 (by simp)
            obtain ⟨b2, off2, rfl, hbl2, hc2⟩ := IS.at0_ (RV.below r5 hB) (by rw [HEL.out]; omega)
            have hya := hc2 a (by rw [HEL.out]; omega)
            have hya0 := (HEB.out a).1
            have HO := Lib.hid hO
            have HM1 := Lib.hid hm1
            have HLEN := Lib.hid hlen
            rw [hm]
            clear hc2 hc3 r3 hO hm1 hlen
            by_cases hpos : 0 < at0 (early ts ts.length) a
            · obtain ⟨b', off', rfl, hbl', hc⟩ := (h5.below hB).atT hp
              obtain ⟨-, Aj, cj, hck1, hso⟩ := hc a hat
              have hlj := len_le_totT ts a hat
              rw [tat_eq hat] at hlj
              have HAFT := Lib.hid (fun j hj => task_after HS.out a hat j hj)
              obtain ⟨d, hd1, hda⟩ := step_lt HS.out hat hpos
              have HSD := Lib.hid (show endAt ts (early ts ts.length) (at0 (early ts ts.length) a) (tat ts a).2 = d by rw [← hd1, stepW, Int.toNat_natCast])
              have HMS := Lib.hid (meets_step HS.out hat hpos)
              have HS1 := Lib.hid (wayR_step ts (early ts ts.length) (f - 1) (a := (a : Int)) (by rw [Int.toNat_natCast]; exact hpos))
              rw [hd1] at HS1
              clear hc hd1
              generalize hY : at0 (early ts ts.length) a = y at *
              generalize hZ : (tat ts a).2 = zs at *
              have HY := Lib.hid hY
              have HZ := Lib.hid hZ
              clear hY hZ
              obtain ⟨w6, hw6⟩ : ∃ w6 : World, w6 = wr := ⟨_, rfl⟩
              go_wp2
              subst hw6
              go_loopw [3, 8] (fun v i wx => ∃ (j : Nat) (v0 : Value) (L' : List Int), j ≤ zs.length ∧ v0 = v ∧ i = .int .i64 j ∧ OI wx w.heap.size v0 L' ∧ Below w5.heap.size w5 wx ∧ ((Hid (L' = (a : Int) :: L) ∧ Hid (noneTo ts (early ts ts.length) y zs j)) ∨ (Hid (L' = (d : Int) :: (a : Int) :: L) ∧ d < a)) ∧ lenV v0 = L'.length) (fun _ i _ => zs.length - (intOf i).toNat)
              case atStart => exact ⟨0, _, (a : Int) :: L, Nat.zero_le _, rfl, rfl, by rw [← hm]; exact HO.out, hB, .inl ⟨Lib.hid rfl, Lib.hid (fun j hj => by omega)⟩, HM1.out⟩
              case round =>
                clear hout hya hck1
                obtain ⟨j, v0, L', hj, rfl, rfl, hO, hB2, hL', hlen⟩ := hrel
                obtain ⟨b7, off7, hbo, hbl7, hc⟩ := (h5.below hB2).atT hp
                injection hbo with hbo
                injection hbo with hbo1 hbo2 _
                subst hbo1 hbo2
                obtain ⟨-, A8, c8, hck1, hso8⟩ := hc a hat
                rw [HZ.out] at hck1 hso8
                obtain ⟨b9, off9, hbo, hbl9, hc2⟩ := IS.at0_ (RV.below r5 hB2) (by rw [HEL.out]; omega)
                injection hbo with hbo
                injection hbo with hbo1 hbo2 _
                subst hbo1 hbo2
                have hya := hc2 a (by rw [HEL.out]; omega)
                rw [HY.out] at hya
                obtain ⟨A4, c4, rfl, r4, -⟩ := OI.form hO
                rcases hL' with ⟨HL', HN⟩ | ⟨HL', hda2⟩
                · obtain ⟨m4, hm4⟩ : ∃ m4, L'.length = m4 := ⟨_, rfl⟩
                  have hp4 : 0 < L'.length := by rw [HL'.out]; simp
                  obtain ⟨b4, off4, rfl, hbl4, hc4⟩ := IS.at0_ r4 hp4
                  have hout : wr.cell? ⟨b4, off4, none⟩ = some (.int .i64 a) := by have := hc4 0 hp4; rw [HL'.out] at this; exact this
                  have hm40 : (0 : Int) < (m4 : Int) := by omega
                  have hm4le : m4 < 100 := by have h9 : m4 = L.length + 1 := (by rw [← hm4, HL'.out]; rfl); omega
                  by_cases hlt2 : j < zs.length
                  · obtain ⟨b3, off3, rfl, hbl3, hc3⟩ := IS.at0_ hso8 (by omega)
                    have hz := hc3 j hlt2
                    obtain ⟨k, hki⟩ : ∃ k : Nat, at0 zs j = k := ⟨(at0 zs j).toNat, by have := HAFT.out j hlt2; omega⟩
                    have hkt : k < ts.length := by have := HAFT.out j hlt2; omega
                    have HKI := Lib.hid hki
                    rw [hki] at hz
                    obtain ⟨hck0, -⟩ := hc k hkt
                    have hyk := hc2 k (by rw [HEL.out]; omega)
                    have HM : Hid (meets ts (early ts ts.length) y (at0 zs j) = (at0 (early ts ts.length) k + (tat ts k).1 == y)) := Lib.hid (by rw [HKI.out, meets, Int.toNat_natCast])
                    have hbd1 := HEB.out k
                    have hbd2 := HSP.out k
                    have HF := Lib.hid (fun hmm => endAt_found ts (early ts ts.length) y zs j HN.out hlt2 hmm)
                    have HNS := Lib.hid (fun hmm => noneTo_succ HN.out hmm)
                    have HO2 := Lib.hid (show ∀ n, OI (wr.drewN n) w.heap.size _ L' from fun n => hO.below (below_n n))
                    have HM4 := Lib.hid hm4
                    rw [hm4]
                    have HR4 := Lib.hid (show ∀ n, RV (wr.drewN n) wr.heap.size _ (ints L') from fun n => RV.below r4 (below_n n))
                    clear hc hc2 hc3 hc4 hki hO hlen hp4 hm4
                    generalize at0 (early ts ts.length) k = yk at *
                    generalize (tat ts k).1 = s at *
                    have hwp : IntKind.i64.wrap (yk + s) = yk + s := by rw [IntKind.wrap_i64]; omega
                    cases hmm : (yk + s == y)
                    · have HR := Lib.hid (HNS.out (by rw [HM.out, hmm]))
                      go_wp2_with fail
                      go_quiet (fail)
                      go_wp2
                      go_roundw
                      case rel => exact ⟨j + 1, _, L', by omega, rfl, by go_num, by rw [← HM4.out]; exact HO2.out _, below_drewN hB2 _, .inl ⟨HL', HR⟩, by rw [← HM4.out]; rfl⟩
                      case measure => (simp [intOf]) <;> omega
                    · have HR := Lib.hid (HF.out (by rw [HM.out, hmm]))
                      have hkd : k = d := by have h1 := HR.out; rw [HSD.out, HKI.out] at h1; omega
                      subst hkd
                      have hbs := hB2.size
                      have hl4 : m4 ≤ 1048576 := by omega
                      go_wp2_with fail
                      go_quiet (fail)
                      go_wp2_with (at_builtin; refine wpList_app _ rfl (.tmp 98) (.tmp 99) 22 rfl int_EIT w5.heap.size _ 1 [.int .i64 k] rfl (newGT _ 3 [.int .i64 k] 1 rfl (by simp; omega)) _ m4 c4 (ints L') rfl (by rw [ints_length, HM4.out, Nat.mul_one]) ((HR4.out _).below ((Below.refl _ _).alloc (by simp) _)) (ints_one _) (le_max (by omega)) (by omega) (by simp; omega) ?_; intro v3 w3 hO3 hg3 hv3)
                      have hO5 : OI w3 w5.heap.size v3 ((k : Int) :: L') := oi_consT HM4.out.symm hO3
                      have hB5' : Below w5.heap.size w5 w3 := (below_drewN hB2 _).trans (below_appT (w0 := w5) (by simp; omega) (newGT _ 3 [.int .i64 k] 1 rfl (by simp; omega)) hg3)
                      obtain ⟨A6, c6, rfl, -⟩ := OI.form hO5
                      have HO5 := Lib.hid hO5
                      clear hO3 hg3 hv3 hO5
                      go_roundw
                      case rel => exact ⟨j + 1, _, (k : Int) :: L', by omega, rfl, by go_num, OI.mono HO5.out hW5, hB5', .inr ⟨Lib.hid (by rw [HL'.out]), hda⟩, rfl⟩
                      case measure => (simp [intOf]) <;> omega
                  · have : j = zs.length := by omega
                    subst this
                    exact absurd HN.out HMS.out
                · obtain ⟨m4, hm4⟩ : ∃ m4, L'.length = m4 := ⟨_, rfl⟩
                  have hp4 : 0 < L'.length := by rw [HL'.out]; simp
                  obtain ⟨b4, off4, rfl, hbl4, hc4⟩ := IS.at0_ r4 hp4
                  have hout : wr.cell? ⟨b4, off4, none⟩ = some (.int .i64 d) := by have := hc4 0 hp4; rw [HL'.out] at this; exact this
                  have hm40 : (0 : Int) < (m4 : Int) := by omega
                  have hm40n : 0 < m4 := by omega
                  have hm4b : m4 = L.length + 2 := by rw [← hm4, HL'.out]; rfl
                  have hdne : ((d : Int) == (a : Int)) = false := by rw [beq_eq_false_iff_ne]; omega
                  have hdne2 : (d == a) = false := by rw [beq_eq_false_iff_ne]; omega
                  have HM4B := Lib.hid hm4b
                  have hOm : OI wr w.heap.size (.slice (some ⟨b4, off4, none⟩) m4 c4) ((d : Int) :: (a : Int) :: L) := by rw [← HL'.out, ← hm4]; exact hO
                  have HO2 := Lib.hid hOm
                  have HM1' := HM1
                  rw [hm4]
                  clear hc hc2 hc4 hO hlen hp4 hm4 hm4b hOm hso8
                  by_cases hlt2 : j < zs.length
                  · go_wp2
                    go_roundw
                    case rel => exact ⟨f - 1, d, _, (a : Int) :: L, rfl, by omega, by omega, by simp; omega, by have := HM4B.out; simp [lenV]; omega, HO2.out, Lib.hid (by rw [HW.out, show f = f - 1 + 1 by omega, HS1.out]; simp), hB2⟩
                    case measure => have h1 := HM4B.out; have h2 := HM1.out; (simp [lenV]) <;> omega
                  · have : j = zs.length := by omega
                    subst this
                    go_wp2
                    go_roundw
                    case rel => exact ⟨f - 1, d, _, (a : Int) :: L, rfl, by omega, by omega, by simp; omega, by have := HM4B.out; simp [lenV]; omega, HO2.out, Lib.hid (by rw [HW.out, show f = f - 1 + 1 by omega, HS1.out]; simp), hB2⟩
                    case measure => have h1 := HM4B.out; have h2 := HM1.out; (simp [lenV]) <;> omega
            · have hd : decide ((0 : Int) < at0 (early ts ts.length) a) = false := decide_eq_false hpos
              have HR := Lib.hid (wayR_zero ts (early ts ts.length) f (a := (a : Int)) (by rw [Int.toNat_natCast]; exact hpos))
              generalize at0 (early ts ts.length) a = y at *
              go_wp2
              go_ret
              refine ⟨_, rfl, ?_, hB5.out.trans (hB.mono hW5)⟩
              rw [HW.out, HR.out, ← hm]
              exact HO.out
  · obtain ⟨e1, e2⟩ := earlyF_nil hc0
    have HE := Lib.hid e2
    have HE1 := Lib.hid e1
    clear e1 e2
    go_enter Try.func27, Try.ntmps27
    go_wp2_with fail
    refine (spec_startsEarly A c ts _ h0 hl).mono ?_
    rintro e w2 ⟨v2, rfl, o2, b2⟩
    rw [HE1.out] at o2
    obtain ⟨A2, c2, rfl, r2, -⟩ := o2.form
    have b02 := below_step hb0 b2
    have h2 := (h0.below b2).more b2.size
    have hO0 := own_below (own_empty w 3 1 _ (Nat.le_refl _)) b2
    clear o2 b2 h0 hb0 r2
    go_wp2_with fail
    refine (spec_tasksEnd A c ts _ h2 hl).mono ?_
    rintro e w4 ⟨rfl, b4⟩
    have b04 := below_step b02 b4
    have hO4 := Lib.hid (own_below hO0 b4)
    clear b4 h2 b02 hO0
    go_wp2
    go_loop [3, 6] (fun v s => v = .slice (some ⟨w.heap.size, 0, none⟩) 0 0 ∧ s = .int .i64 0) (fun _ _ => 0)
    case atStart => exact ⟨rfl, rfl⟩
    case round =>
      obtain ⟨rfl, rfl⟩ := hrel
      go_wp2
      go_loop [3] (fun v => v = .slice (some ⟨w.heap.size, 0, none⟩) 0 0) (fun _ => 0)
      case atStart => exact rfl
      case round =>
        subst hrel
        go_wp2
        go_ret
        exact ⟨_, rfl, by rw [HE.out]; exact hO4.out, b04⟩
end Go.Proofs.Ytgndokhehooplaa
