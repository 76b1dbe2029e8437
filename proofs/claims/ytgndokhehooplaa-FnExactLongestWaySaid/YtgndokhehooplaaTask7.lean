/- LongestWay: what the program and the reference compute. -/
import Derived.Test.YtgndokhehooplaaTask4
import Derived.Test.YtgndokhehooplaaTaskW
import Derived.Test.YtgndokhehooplaaRev
set_option linter.unusedVariables false
set_option linter.unusedSimpArgs false
namespace Go.Proofs.Ytgndokhehooplaa
open Go.ChangeShapes Go.WideShapes Go.ChangeAt Go.RowKit

theorem newGT {base : Nat} (w : World) (T : TypeId) (cs : List Value) (s : Nat) (hs : cs.length = s) (h : base ≤ w.heap.size) : (w.alloc (.cells cs.toArray T)).ownsRow base T s (.slice (some ⟨w.heap.size, 0, none⟩) 1 1) 1 cs :=
  Blk.own (Blk.new w T cs.toArray) h (by simp [hs]) (by decide)
theorem below_appT {w0 w w' : World} {o : Obj} {e : TypeId} {size n : Nat} {v : Value} {xs : List Value} (hs : w0.heap.size ≤ w.heap.size) (ho : (w.alloc o).ownsRow w0.heap.size e size v n xs) (hg : (w.alloc o).grownBy w' v.ownBlock) : Below w0.heap.size w w' :=
  ((Below.refl w0.heap.size w).alloc hs o).grown hg (by simp; omega) fun k hk => (World.ownsRow.lt ho k hk).1
theorem oi_consT {w : World} {base n : Nat} {v : Value} {xs : List Int} {k : Int} (hn : n = xs.length) (h : w.ownsRow base 3 1 v (1 + n) ([.int .i64 k] ++ ints xs)) : OI w base v (k :: xs) := by
  subst hn
  have e : (k :: xs).length = 1 + xs.length := by simp; omega
  rw [OI, e]; exact h
def lenV : Value → Nat
  | .slice _ n _ => n
  | _ => 0
theorem drewN_add (w : World) (a b : Nat) : (w.drewN a).drewN b = w.drewN (a + b) := World.drewN_drewN w a b
theorem quiet_q {P : Program} {f : FuncId} {args : Array Value} {w : World} {a : Nat} {v : Value}
    (h : Calls P f args (w.drewN a) fun e w' => e = .returned v ∧ ∃ q, w' = (w.drewN a).drewN q) :
    Calls P f args (w.drewN a) fun e w'' => e = .returned v ∧ ∃ m, w'' = w.drewN m :=
  h.mono fun _ _ ⟨he, q, hq⟩ => ⟨he, a + q, by rw [hq, drewN_add]⟩
set_option maxRecDepth 20000 in
set_option maxHeartbeats 4000000 in
theorem endingAt_any (A A2 A3 : Option Addr) (c c2 c3 n2 : Nat) (ts : List Tsk) (es zs : List Int) (time : Int) (w : World) (B B2 B3 : Nat) (h : ST w B A ts) (h2 : IS w B2 A2 es) (h3 : IS w B3 A3 zs) (hn2 : es.length = n2) (hl : ts.length ≤ n2) (hl2 : n2 ≤ 1048576) (hl3 : zs.length ≤ 1048576)
    (hz : ∀ j, j < zs.length → 0 ≤ at0 zs j ∧ at0 zs j < ts.length) (he : ∀ a, 0 ≤ at0 es a ∧ at0 es a ≤ 100000) (hsp : ∀ a, 0 ≤ (tat ts a).1 ∧ (tat ts a).1 ≤ 100000) :
    Calls Try.prog 61 #[.slice A ts.length c, .slice A2 n2 c2, .slice A3 zs.length c3, .int .i64 time] w fun e w' => e = .returned (.int .i64 (endAt ts es time zs)) ∧ ∃ q, w' = w.drewN q := by
  have HZ := Lib.hid hz
  have HE := Lib.hid he
  have HSP := Lib.hid hsp
  have HN2 := Lib.hid hn2
  clear hz he hsp hn2
  go_enter Try.func61, Try.ntmps61
  go_wp2
  go_loopw [13] (fun i wr => ∃ j : Nat, j ≤ zs.length ∧ i = .int .i64 j ∧ Hid (noneTo ts es time zs j) ∧ ∃ q, wr = w.drewN q) (fun i _ => zs.length - (intOf i).toNat)
  case atStart => exact ⟨0, Nat.zero_le _, rfl, Lib.hid (fun j hj => by omega), 0, rfl⟩
  case round =>
    obtain ⟨j, hj, rfl, HN, q, rfl⟩ := hrel
    by_cases hlt : j < zs.length
    · obtain ⟨b3, off3, rfl, hbl3, hc3⟩ := IS.at0_ h3 (by omega)
      have hzj := hc3 j hlt
      obtain ⟨a, hai⟩ : ∃ a : Nat, at0 zs j = a := ⟨(at0 zs j).toNat, by have := HZ.out j hlt; omega⟩
      have hat : a < ts.length := by have := HZ.out j hlt; omega
      have HAI := Lib.hid hai
      rw [hai] at hzj
      obtain ⟨b, off, rfl, hbl, hc⟩ := h.atT (by omega)
      obtain ⟨hsa, -⟩ := hc a hat
      obtain ⟨b2, off2, rfl, hbl2, hc2⟩ := IS.at0_ h2 (by rw [HN2.out]; omega)
      have hya := hc2 a (by rw [HN2.out]; omega)
      have hbd1 := HE.out a
      have hbd2 := HSP.out a
      have hat2 : a < n2 := by omega
      have HM : Hid (meets ts es time (at0 zs j) = (at0 es a + (tat ts a).1 == time)) := Lib.hid (by rw [HAI.out, meets, Int.toNat_natCast])
      have HF := Lib.hid (fun hm => endAt_found ts es time zs j HN.out hlt hm)
      have HNS := Lib.hid (fun hm => noneTo_succ HN.out hm)
      rw [HAI.out] at HF
      clear hc hc2 hc3 hai
      generalize at0 es a = y at *
      generalize (tat ts a).1 = s at *
      have hwp : IntKind.i64.wrap (y + s) = y + s := by rw [IntKind.wrap_i64]; omega
      cases hm : (y + s == time)
      · have HR := Lib.hid (HNS.out (by rw [HM.out, hm]))
        go_wp2_with fail
        go_quiet (fail)
        go_wp2
        go_roundw
        case rel => first | exact ⟨j + 1, by omega, by go_num, HR, _, rfl⟩ | exact ⟨j + 1, by omega, by go_num, HR, _, World.drewN_drewN _ _ _⟩
        case measure => (simp [intOf]) <;> omega
      · have HR := Lib.hid (HF.out (by rw [← HAI.out, HM.out, hm]))
        go_wp2_with fail
        go_quiet (fail)
        go_wp2
        go_ret
        first | exact ⟨ret_int HR.out.symm, _, rfl⟩ | exact ⟨ret_int HR.out.symm, _, World.drewN_drewN _ _ _⟩
    · obtain rfl : j = zs.length := by omega
      have HR := Lib.hid (endAt_none ts es time zs HN.out)
      go_wp2
      go_ret
      exact ⟨ret_int HR.out.symm, _, rfl⟩
theorem idx_at0 (n k : Nat) (h : k < n) : at0 (idx n) k = k := by
  rw [← at0_eq (by rw [idx_length]; exact h), idx_get]
theorem step_lt {ts : List Tsk} (h : tasksB ts = true) {a : Nat} (ha : a < ts.length) (hp : 0 < at0 (early ts ts.length) a) : ∃ b : Nat, stepW ts (early ts ts.length) a = b ∧ b < a := by
  obtain ⟨b, h1, h2, _⟩ := step_is h ha hp
  exact ⟨b, h1, h2⟩
set_option maxRecDepth 20000 in
set_option maxHeartbeats 8000000 in
theorem impl_longestWay (A : Option Addr) (c : Nat) (ts : List Tsk) (w : World) (h : ST w w.heap.size A ts) (hl : ts.length + totT ts ≤ 1048576) :
    Calls Try.prog 29 #[.slice A ts.length c] w (RetI w (wayF ts)) := by
  cases hs : tasksB ts
  · have HE := Lib.hid (wayF_no hs)
    go_enter Try.func29, Try.ntmps29
    go_wp2_with (go_at_call 59; refine (impl_tasksValid A c ts _ h hl).mono ?_; rintro e w1 ⟨rfl, b1⟩)
    go_ret
    exact ⟨_, rfl, by rw [HE.out]; exact OI.nil _ _, b1⟩
  · by_cases hp : 0 < ts.length
    · have HWF := Lib.hid (wayF_yes hs hp)
      have HS := Lib.hid hs
      have h7 := tasks_len hs
      have HEY := Lib.hid (earlyF_yes hs)
      have HEL := Lib.hid (early_length ts ts.length)
      have HEB := Lib.hid (fun a => early_bound hs ts.length a)
      have HSP := Lib.hid (fun a => task_span hs a)
      have HLW := Lib.hid (last_is hs hp)
      have hz0 : ((ts.length : Int) == 0) = false := by rw [beq_eq_false_iff_ne]; omega
      go_enter Try.func29, Try.ntmps29
      go_wp2_with (go_at_call 59; refine (impl_tasksValid A c ts _ h hl).mono ?_; rintro e w1 ⟨rfl, b1⟩)
      clear hs
      have h1 := (h.below b1).more b1.size
      go_wp2_with fail
      refine (impl_startsEarly A c ts _ h1 hl).mono ?_
      rintro e w2 ⟨v2, rfl, o2, b2⟩
      rw [HEY.out] at o2
      obtain ⟨A2, c2, rfl, r2, -⟩ := o2.form
      have b02 := below_step b1 b2
      have h2 := (h1.below b2).more b2.size
      clear o2 b1 b2 h1
      rw [HEL.out]
      go_wp2_with fail
      refine (indices_any ts.length _ (by omega)).mono ?_
      rintro e w3 ⟨v3, rfl, o3, b3⟩
      obtain ⟨A3, c3, rfl, r3, -⟩ := o3.form
      have b03 := below_step b02 b3
      have h3 := (h2.below b3).more b3.size
      have r2' := RV.step r2 b3
      clear o3 b3 h2 r2 b02
      rw [idx_length]
      go_wp2_with fail
      refine (impl_tasksEnd A c ts _ h3 hl).mono ?_
      rintro e w4 ⟨rfl, b4⟩
      have b04 := below_step b03 b4
      have h4 := (h3.below b4).more b4.size
      have r4 := RV.step r2' b4
      have r34 := RV.step r3 b4
      clear b4 h3 r2' r3 b03
      have hcall := endingAt_any A A2 A3 c c2 c3 ts.length ts (early ts ts.length) (idx ts.length) (endF ts) w4 _ _ _ h4 r4 r34 HEL.out (Nat.le_refl _) (by omega) (by rw [idx_length]; omega)
        (fun j hj => by rw [idx_length] at hj; rw [idx_at0 _ _ hj]; omega) (fun a => by have := HEB.out a; omega) (fun a => by have := HSP.out a; omega)
      rw [idx_length] at hcall
      have HC := Lib.hid hcall
      clear hcall
      go_wp2_with fail
      refine HC.out.mono ?_
      rintro e w5 ⟨rfl, hq⟩
      have b5 : Below w4.heap.size w4 w5 := by obtain ⟨q, rfl⟩ := hq; exact below_n q
      have b05 := below_step b04 b5
      have h5 := (h4.below b5).more b5.size
      have r5 := RV.step r4 b5
      clear HC hq b5 b04 h4 r4 r34
      have HL : Hid (endAt ts (early ts ts.length) (endF ts) (idx ts.length) = lastW ts) := Lib.hid rfl
      rw [HL.out]
      obtain ⟨a0, ha0, ha0l, -⟩ := HLW.out
      rw [ha0]
      rw [ha0] at HWF
      have HA0 := Lib.hid ha0
      clear ha0
      have h5s := b05.size
      go_wp2
      go_loopw [4, 5] (fun s v wr => ∃ (f a : Nat) (v0 : Value) (L : List Int), s = .int .i64 a ∧ v0 = v ∧ a < ts.length ∧ a ≤ f ∧ a + L.length ≤ ts.length ∧ OI wr w5.heap.size v0 (L ++ [(a : Int)]) ∧ Hid (wayF ts = wayR ts (early ts ts.length) f a ++ L.reverse) ∧ Below w5.heap.size w5 wr) (fun s _ _ => (intOf s).toNat)
      case atStart => exact ⟨ts.length, a0, _, [], rfl, rfl, ha0l, by omega, by simp; omega, newGT w5 3 [.int .i64 a0] 1 rfl (Nat.le_refl _), Lib.hid (by rw [HWF.out]; simp), below_al (Below.refl _ _) _⟩
      case round =>
        obtain ⟨f, a, v0, L, rfl, rfl, hat, haf, haL, hO, HW, hB⟩ := hrel
        have h6 := h5.below hB
        have r6 := RV.below r5 hB
        obtain ⟨b, off, rfl, hbl, hc⟩ := h6.atT hp
        obtain ⟨-, Aj, cj, hck1, hso⟩ := hc a hat
        obtain ⟨b2, off2, rfl, hbl2, hc2⟩ := IS.at0_ r6 (by rw [HEL.out]; omega)
        have hya := hc2 a (by rw [HEL.out]; omega)
        have hbd := HEB.out a
        have hlj := len_le_totT ts a hat
        rw [tat_eq hat] at hlj
        clear hc hc2
        have HR0 := Lib.hid (fun hh => wayR_zero ts (early ts ts.length) f (a := (a : Int)) hh)
        have HR1 := Lib.hid (fun hh => wayR_step ts (early ts ts.length) (f - 1) (a := (a : Int)) hh)
        have HSL := Lib.hid (fun hh => step_lt HS.out hat hh)
        have HST : Hid (stepW ts (early ts ts.length) a = endAt ts (early ts ts.length) (at0 (early ts ts.length) a) (tat ts a).2) := Lib.hid (by rw [stepW, Int.toNat_natCast])
        have HAFT := Lib.hid (fun j hj => task_after HS.out a hat j hj)
        rw [Int.toNat_natCast] at HR0 HR1
        by_cases hpos : 0 < at0 (early ts ts.length) a
        · obtain ⟨a', hst, hlt'⟩ := HSL.out hpos
          have HS1 := Lib.hid (HR1.out hpos)
          rw [hst] at HST HS1
          clear hst HR0 HR1
          have hquiet : ∀ n, Calls Try.prog 61 #[.slice (some ⟨b, off, none⟩) ts.length c, .slice (some ⟨b2, off2, none⟩) ts.length c2, .slice Aj (tat ts a).2.length cj, .int .i64 (at0 (early ts ts.length) a)] (wr.drewN n) fun e w'' => e = .returned (.int .i64 (a' : Int)) ∧ ∃ m, w'' = wr.drewN m := fun n => quiet_q (by
            rw [HST.out]
            exact endingAt_any _ _ _ c c2 cj ts.length ts (early ts ts.length) (tat ts a).2 _ _ w5.heap.size w5.heap.size w5.heap.size (h6.below (below_drewN (Below.refl _ _) n)) (RV.below r6 (below_drewN (Below.refl _ _) n)) (RV.below hso (below_drewN (Below.refl _ _) n)) HEL.out (Nat.le_refl _) (by omega) (by omega)
              (fun j hj => by have := HAFT.out j hj; omega) (fun a => by have := HEB.out a; omega) (fun a => by have := HSP.out a; omega))
          have HQ := Lib.hid hquiet
          have HLL : (L ++ [(a : Int)]).length = L.length + 1 := by simp
          have hO2 : ∀ n, (wr.drewN n).ownsRow w5.heap.size 3 1 v0 (L.length + 1) (ints (L ++ [(a : Int)])) := fun n => by
            have := hO.below (w' := wr.drewN n) (below_n n)
            unfold OI at this
            rwa [HLL] at this
          have HO2 := Lib.hid hO2
          have HLE := Lib.hid HLL
          clear hquiet hO hO2 HLL h6 r6
          have hHB := hB.size
          generalize at0 (early ts ts.length) a = y at *
          generalize (tat ts a).2 = zs at *
          go_wp2_with fail
          go_quiet ((go_at_call 61; exact HQ.out _))
          go_wp2_with (at_builtin; refine wpList_app _ rfl (.tmp 43) (.tmp 45) 22 rfl int_EIT w5.heap.size v0 (L.length + 1) _ rfl ((HO2.out _).alloc _) (some ⟨_, 0, none⟩) 1 1 [.int .i64 a'] rfl rfl (rv_new _ _ _) (one1 _) (le_max (by omega)) (by omega) (by simp; omega) ?_; intro v3 w3 hO3 hg3 _)
          go_roundw
          case rel => exact ⟨f - 1, a', _, L ++ [(a : Int)], rfl, rfl, by omega, by omega, by rw [HLE.out]; omega, oi_pushT (by rw [HLE.out]; exact hO3), Lib.hid (by rw [HW.out, show f = f - 1 + 1 by omega, HS1.out]; simp), (below_drewN hB _).trans (below_appT (w0 := w5) (by simp; omega) ((HO2.out _).alloc _) hg3)⟩
          case measure => (simp [intOf]) <;> omega
        · have HR := Lib.hid (HR0.out hpos)
          have hd : decide ((0 : Int) < at0 (early ts ts.length) a) = false := decide_eq_false hpos
          have HLL : (L ++ [(a : Int)]).length = L.length + 1 := by simp
          unfold OI at hO
          rw [HLL] at hO
          obtain ⟨Av, cv, rfl, -⟩ := own_form hO
          obtain ⟨g, rfl, hgb⟩ := own_head hO (by omega)
          have hrev := reverse_any g cv w5.heap.size (L ++ [(a : Int)]) wr (by rw [HLL]; exact hO) hgb (by rw [HLL]; omega) (by rw [HLL]; omega)
          rw [HLL] at hrev
          have HV := Lib.hid hrev
          clear hO HLL HR0 HR1 hrev h6 r6 hpos
          generalize at0 (early ts ts.length) a = y at *
          go_wp2_with fail
          refine HV.out.mono ?_
          rintro e w9 ⟨rfl, hO9, b9⟩
          have HO9 := Lib.hid hO9
          clear hO9
          go_wp2
          go_ret
          refine ⟨_, rfl, OI.mono ?_ h5s, b05.trans ((hB.trans b9).mono h5s)⟩
          have e1 : wayF ts = (L ++ [(a : Int)]).reverse := by rw [HW.out, HR.out]; simp
          have e2 : (L ++ [(a : Int)]).reverse.length = L.length + 1 := by simp
          rw [e1, OI, e2]
          exact HO9.out
    · have hx : ts = [] := List.eq_nil_of_length_eq_zero (by omega)
      subst hx
      have HE := Lib.hid (wayF_nil (ts := []) rfl)
      go_enter Try.func29, Try.ntmps29
      go_wp2_with (go_at_call 59; refine (impl_tasksValid A c [] _ h hl).mono ?_; rintro e w1 ⟨rfl, b1⟩)
      go_ret
      exact ⟨_, rfl, by rw [HE.out]; exact OI.nil _ _, b1⟩
end Go.Proofs.Ytgndokhehooplaa
