/- StartsEarly, TasksEnd: what the program and the reference compute. -/
import Derived.Test.YtgndokhehooplaaTask3
import Derived.Lib.MinMax
set_option linter.unusedVariables false
set_option linter.unusedSimpArgs false
namespace Go.Proofs.Ytgndokhehooplaa
open Go.ChangeShapes Go.WideShapes Go.ChangeAt Go.RowKit

theorem int_EIT : EI Try.prog 22 3 1 8 := EI.mk Try.underlying22 int_info rfl (by omega)
theorem oi_pushT {w : World} {base : Nat} {v : Value} {xs : List Int} {k : Int} (h : w.ownsRow base 3 1 v (xs.length + 1) (ints xs ++ [.int .i64 k])) : OI w base v (xs ++ [k]) := by
  rw [OI, ints_append, List.length_append]; exact h
theorem own_likeT {w w' : World} {base n size : Nat} {e : TypeId} {v : Value} {cs : List Value} (h : w.ownsRow base e size v n cs) (hh : w'.heap = w.heap) : w'.ownsRow base e size v n cs := by
  refine ⟨h.1, ?_⟩
  rcases h.2 with h0 | ⟨g, cap, cur, hv, hb, hg, r⟩
  · exact .inl h0
  · exact .inr ⟨g, cap, cur, hv, hb, by rw [hh]; exact hg, r⟩
theorem tasks_nil_pos {ts : List Tsk} (h : tasksB ts = false) : 0 < ts.length := by
  rcases Nat.eq_zero_or_pos ts.length with e | e
  · have := List.eq_nil_of_length_eq_zero e
    subst this
    simp [tasksB, tUpTo] at h
  · exact e
set_option maxRecDepth 20000 in
set_option maxHeartbeats 8000000 in
theorem spec_startsEarly (A : Option Addr) (c : Nat) (ts : List Tsk) (w : World) (h : ST w w.heap.size A ts) (hl : ts.length + totT ts ≤ 1048576) :
    Calls Try.prog 56 #[.slice A ts.length c] w (RetI w (earlyF ts)) := by
  cases hs : tasksB ts
  · have HE := Lib.hid (earlyF_no hs)
    have hp := tasks_nil_pos hs
    go_enter Try.func56, Try.ntmps56
    go_wp2
    go_loopw [3, 4] (fun v s wr => v = .slice (some ⟨w.heap.size, 0, none⟩) 0 0 ∧ s = .int .i64 0 ∧ wr = w.alloc (.cells #[] 3)) (fun _ _ _ => 0)
    case atStart => exact ⟨rfl, rfl, rfl⟩
    case round =>
      obtain ⟨rfl, rfl, rfl⟩ := hrel
      go_wp2_with (go_at_call 71; refine (spec_tasksValid A c ts _ _ (h.below (below_al (Below.refl _ _) _)) hl).mono ?_; rintro e w1 ⟨rfl, q, rfl⟩)
      go_ret
      exact ⟨_, rfl, by rw [HE.out]; exact own_likeT (own_empty w _ _ _ (Nat.le_refl _)) rfl, below_drewN (below_al (Below.refl _ _) _) _⟩
  · have HE := Lib.hid (earlyF_yes hs)
    have HS := Lib.hid hs
    have h7 := tasks_len hs
    go_enter Try.func56, Try.ntmps56
    go_wp2
    go_loopw [3, 4] (fun v s wr => ∃ (k : Nat) (v0 : Value), k ≤ ts.length ∧ v0 = v ∧ s = .int .i64 (k : Int) ∧ OI wr w.heap.size v0 (early ts k) ∧ Below w.heap.size w wr) (fun _ s _ => ts.length - (intOf s).toNat)
    case atStart => exact ⟨0, _, by omega, rfl, by go_num, own_empty w _ _ _ (Nat.le_refl _), below_al (Below.refl _ _) _⟩
    case round =>
      obtain ⟨k, v, hk, rfl, rfl, hO, hW⟩ := hrel
      by_cases hlt : k < ts.length
      · go_wp2_with fail
        refine (spec_tasksValid A c ts _ _ (h.below hW) hl).mono ?_
        rintro e w1 ⟨rfl, hq⟩
        have b1 : Below wr.heap.size wr w1 := by obtain ⟨q, rfl⟩ := hq; exact below_n q
        have hW1 := below_step hW b1
        have hO1 := hO.below b1
        have HAFT := Lib.hid (fun j hj => task_after HS.out k hlt j hj)
        have HSP := Lib.hid (task_span HS.out)
        have HEB := Lib.hid (early_bound HS.out k)
        have HSB := Lib.hid (fun xs j => stF_bound HS.out (early ts k) xs (30 * k) (by omega) (HEB.out) j)
        obtain ⟨A2, c2, rfl, r2, -⟩ := hO1.form
        obtain ⟨b, off, rfl, hbl, hc⟩ := (h.below hW1).atT (by omega)
        obtain ⟨hck0, Aj, cj, hck1, hso⟩ := hc k hlt
        have hlj := len_le_totT ts k hlt
        rw [tat_eq hlt] at hlj
        have HEK : Hid (early ts (k + 1) = early ts k ++ [stF ts (early ts k) (tat ts k).2 (tat ts k).2.length]) := Lib.hid rfl
        have HC := Lib.hid hc
        have hel := early_length ts k
        have HEL := Lib.hid hel
        have HO1 := Lib.hid hO1
        have HR2 := Lib.hid r2
        clear hq hO hc hel hO1 r2
        generalize (tat ts k).2 = xs at *
        rw [HEL.out]
        go_wp2
        clear hs
        obtain ⟨wo, rfl⟩ : ∃ wo : World, wo = w1 := ⟨_, rfl⟩
        go_loopw [5, 6] (fun a i wx => ∃ j : Nat, j ≤ xs.length ∧ i = .int .i64 j ∧ a = .int .i64 (stF ts (early ts k) xs j) ∧ ∃ q, wx = wo.drewN q) (fun _ i _ => xs.length - (intOf i).toNat)
        case atStart => exact ⟨0, Nat.zero_le _, rfl, rfl, 0, rfl⟩
        case round =>
          obtain ⟨j, hj, rfl, rfl, q1, rfl⟩ := hrel
          by_cases hlt2 : j < xs.length
          · obtain ⟨b2, off2, rfl, hbl2, hc2⟩ := hso.at0_ (by omega)
            have hx := hc2 j hlt2
            obtain ⟨a, hai⟩ : ∃ a : Nat, at0 xs j = a := ⟨(at0 xs j).toNat, by have := HAFT.out j hlt2; omega⟩
            have hak : a < k := by have := HAFT.out j hlt2; omega
            have HAI := Lib.hid hai
            rw [hai] at hx
            obtain ⟨b3, off3, rfl, hbl3, hc3⟩ := HR2.out.at0_ (by rw [HEL.out]; omega)
            have hy := hc3 a (by rw [HEL.out]; omega)
            obtain ⟨hz, -⟩ := HC.out a (by omega)
            have HST : Hid (stF ts (early ts k) xs (j + 1) = max (stF ts (early ts k) xs j) (at0 (early ts k) a + (tat ts a).1)) := Lib.hid (by rw [stF, HAI.out]; rfl)
            have hbd1 := HEB.out a
            have hbd2 := HSP.out a
            have hbd3 := HSB.out xs j
            have hat : a < ts.length := by omega
            clear hc2 hc3 hai
            generalize stF ts (early ts k) xs j = cur at *
            generalize at0 (early ts k) a = x at *
            generalize (tat ts a).1 = y at *
            have hwp : IntKind.i64.wrap (x + y) = x + y := by rw [IntKind.wrap_i64]; omega
            go_wp2_with fail
            go_quiet (fail)
            clear hwp
            go_wp2
            go_roundw
            case rel => first | exact ⟨j + 1, by omega, by go_num, by rw [HST.out], _, rfl⟩ | exact ⟨j + 1, by omega, by go_num, by rw [HST.out], _, World.drewN_drewN _ _ _⟩
            case measure => simp [intOf]; omega
          · obtain rfl : j = xs.length := by omega
            have hO2 : (wo.drewN q1).ownsRow w.heap.size 3 1 (.slice A2 (early ts k).length c2) (early ts k).length (ints (early ts k)) := own_likeT HO1.out rfl
            have hb2 : Below w.heap.size w (wo.drewN q1) := below_drewN hW1 _
            rw [HEL.out] at hO2
            clear hso
            go_wp2_with (at_builtin; refine wpList_app _ rfl (.tmp 49) (.tmp 51) 22 rfl int_EIT w.heap.size (.slice A2 k c2) k _ rfl (hO2.alloc _) (some ⟨_, 0, none⟩) 1 1 [.int .i64 (stF ts (early ts k) xs xs.length)] rfl rfl (rv_new _ _ _) (one1 _) (le_max (by omega)) (by omega) (below_al hb2 _).size ?_; intro v3 w3 hO3 hg3 _)
            go_roundw
            case rel => exact ⟨k + 1, _, by omega, rfl, by go_num, by rw [HEK.out]; exact oi_pushT (by rw [HEL.out]; exact hO3), below_app (below_al hb2 _) (hO2.alloc _) hg3⟩
            case measure => simp [intOf]; omega
      · obtain rfl : k = ts.length := by omega
        have HO := Lib.hid hO
        clear hO
        go_wp2
        go_ret
        exact ⟨_, rfl, by rw [HE.out]; exact HO.out, hW⟩

def eL (ts : List Tsk) (k : Nat) (x : Int) : List Int := early ts k ++ x :: List.replicate (ts.length - k - 1) 0
def eK (ts : List Tsk) (k : Nat) : List Int := early ts k ++ List.replicate (ts.length - k) 0
theorem eK_lt (ts : List Tsk) (k : Nat) (h : k < ts.length) : eK ts k = eL ts k 0 := by
  obtain ⟨m, hm⟩ : ∃ m, ts.length - k = m + 1 := ⟨ts.length - k - 1, by omega⟩
  unfold eK eL
  rw [hm, List.replicate_succ]; simp
theorem eL_full (ts : List Tsk) (k : Nat) : eL ts k (stF ts (early ts k) (tat ts k).2 (tat ts k).2.length) = eK ts (k + 1) := by
  rw [eK, eL, early]; simp; omega
theorem eK_end (ts : List Tsk) : eK ts ts.length = early ts ts.length := by simp [eK]
theorem eL_length (ts : List Tsk) (k : Nat) (x : Int) (h : k < ts.length) : (eL ts k x).length = ts.length := by simp [eL, early_length]; omega
theorem eL_set (ts : List Tsk) (k : Nat) (x y : Int) : (eL ts k x).set k y = eL ts k y := by
  rw [eL, List.set_append_right _ _ (by rw [early_length]; exact Nat.le_refl _), early_length, Nat.sub_self, List.set_cons_zero]; rfl
theorem eL_at (ts : List Tsk) (k : Nat) (x : Int) : at0 (eL ts k x) k = x := by
  have := at0_append_at (early ts k) (List.replicate (ts.length - k - 1) 0) x
  rw [early_length] at this; exact this
theorem eL_lt (ts : List Tsk) (k : Nat) (x : Int) (a : Nat) (h : a < k) : at0 (eL ts k x) a = at0 (early ts k) a := at0_append_left _ _ _ (by rw [early_length]; exact h)
theorem Blk.at0_ {w : World} {g : Nat} {xs : List Int} (h : Blk w g 3 (ints xs)) (k : Nat) (hk : k < xs.length) : w.cell? ⟨g, k, none⟩ = some (.int .i64 (at0 xs k)) := by
  rw [h.cell k (by rw [ints_length]; exact hk), ← at0_eq hk]; simp [ints]
theorem ints_setT (xs : List Int) (i : Nat) (x : Int) : (ints xs).set i (.int .i64 x) = ints (xs.set i x) := by simp [ints, List.map_set]
theorem Blk.like {w w' : World} {g : Nat} {t : TypeId} {cs : List Value} (h : Blk w g t cs) (e : w'.heap = w.heap) : Blk w' g t cs := by unfold Blk at *; rw [e]; exact h
theorem eK_zero (ts : List Tsk) : filled (.int .i64 0) [] ts.length = ints (eK ts 0) := by rw [filled_nil]; simp [eK, early, ints_replicate]
set_option maxRecDepth 20000 in
set_option maxHeartbeats 8000000 in
theorem impl_startsEarly (A : Option Addr) (c : Nat) (ts : List Tsk) (w : World) (h : ST w w.heap.size A ts) (hl : ts.length + totT ts ≤ 1048576) :
    Calls Try.prog 60 #[.slice A ts.length c] w (RetI w (earlyF ts)) := by
  cases hs : tasksB ts
  · have HE := Lib.hid (earlyF_no hs)
    go_enter Try.func60, Try.ntmps60
    go_wp2_with (go_at_call 59; refine (impl_tasksValid A c ts _ h hl).mono ?_; rintro e w1 ⟨rfl, b1⟩)
    go_ret
    exact ⟨_, rfl, by rw [HE.out]; exact OI.nil _ _, b1⟩
  · have HE := Lib.hid (earlyF_yes hs)
    have HS := Lib.hid hs
    have h7 := tasks_len hs
    have hmk := run_make_row' (P := Try.prog) 22 3 (.int .i64 0) 8 Try.underlying22 int_info rfl .i64 .i64 ts.length (by omega) (by omega)
    go_enter Try.func60, Try.ntmps60
    go_wp2_with (go_at_call 59; refine (impl_tasksValid A c ts _ h hl).mono ?_; rintro e w1 ⟨rfl, b1⟩)
    clear hmk hs
    go_loopw [16] (fun i wr => ∃ k : Nat, k ≤ ts.length ∧ i = .int .i64 k ∧ Blk wr w1.heap.size 3 (ints (eK ts k)) ∧ Below w.heap.size w wr) (fun i _ => ts.length - (intOf i).toNat)
    case atStart => exact ⟨0, Nat.zero_le _, rfl, by rw [← eK_zero]; exact blk_made w1 _ _ _, below_al b1 _⟩
    case round =>
      obtain ⟨k, hk, rfl, hB, hW⟩ := hrel
      by_cases hlt : k < ts.length
      · have HAFT := Lib.hid (fun j hj => task_after HS.out k hlt j hj)
        have HSP := Lib.hid (task_span HS.out)
        have HEB := Lib.hid (early_bound HS.out k)
        have HSB := Lib.hid (fun xs j => stF_bound HS.out (early ts k) xs (30 * k) (by omega) (HEB.out) j)
        obtain ⟨b, off, rfl, hbl, hc⟩ := (h.below hW).atT (by omega)
        obtain ⟨hck0, Aj, cj, hck1, hso⟩ := hc k hlt
        have hlj := len_le_totT ts k hlt
        rw [tat_eq hlt] at hlj
        have HEK := Lib.hid (eL_full ts k)
        rw [eK_lt ts k hlt] at hB
        have HH := Lib.hid h
        have hsz := hW.size
        have hbw : b < wr.heap.size := by omega
        have HB := Lib.hid hB
        have hsz1 := b1.size
        have hsz2 := hB.lt
        clear hc hB h
        obtain ⟨wo, rfl⟩ : ∃ wo : World, wo = wr := ⟨_, rfl⟩
        generalize (tat ts k).2 = xs at *
        generalize (tat ts k).1 = sp at *
        go_wp2
        go_loopw [24] (fun i wx => ∃ j : Nat, j ≤ xs.length ∧ i = .int .i64 j ∧ Blk wx w1.heap.size 3 (ints (eL ts k (stF ts (early ts k) xs j))) ∧ Below w.heap.size w wx ∧ (∀ p : Addr, p.block < w.heap.size → wx.cell? p = wo.cell? p)) (fun i _ => xs.length - (intOf i).toNat)
        case atStart => exact ⟨0, Nat.zero_le _, rfl, HB.out.alloc _, below_al hW _, fun p hp => World.cell?_alloc_lt _ _ _ (by omega)⟩
        case round =>
          obtain ⟨j, hj, rfl, hB, hW2, hkeep⟩ := hrel
          by_cases hlt2 : j < xs.length
          · obtain ⟨b2, off2, rfl, hbl2, hc2⟩ := (show IS wr w.heap.size Aj xs from RV.keep hso hkeep).at0_ (by omega)
            have hx := hc2 j hlt2
            obtain ⟨a, hai⟩ : ∃ a : Nat, at0 xs j = a := ⟨(at0 xs j).toNat, by have := HAFT.out j hlt2; omega⟩
            have hak : a < k := by have := HAFT.out j hlt2; omega
            have HAI := Lib.hid hai
            rw [hai] at hx
            obtain ⟨b', off', hbo, hbl', hc⟩ := (HH.out.below hW2).atT (by omega)
            injection hbo with hbo
            injection hbo with hbo1 hbo2 _
            subst hbo1 hbo2
            obtain ⟨hz, -⟩ := hc a (by omega)
            have hy := hB.at0_ a (by rw [eL_length _ _ _ hlt]; omega)
            rw [eL_lt _ _ _ _ hak] at hy
            have hy2 := hB.at0_ k (by rw [eL_length _ _ _ hlt]; omega)
            rw [eL_at] at hy2
            have hfr := hB.frozen k
            have HST : Hid (stF ts (early ts k) xs (j + 1) = max (stF ts (early ts k) xs j) (at0 (early ts k) a + (tat ts a).1)) := Lib.hid (by rw [stF, HAI.out]; rfl)
            have HB2 := Lib.hid (hB.set_ k (.int .i64 (max (stF ts (early ts k) xs j) (at0 (early ts k) a + (tat ts a).1))))
            have hbd1 := HEB.out a
            have hbd2 := HSP.out a
            have hbd3 := HSB.out xs j
            have hat : a < ts.length := by omega
            have HK2 := Lib.hid hkeep
            clear hc2 hc hai hB hkeep
            generalize hcur : stF ts (early ts k) xs j = cur at *
            generalize at0 (early ts k) a = x at *
            generalize (tat ts a).1 = y at *
            have HCUR := Lib.hid hcur
            clear hcur
            have hwp : IntKind.i64.wrap (x + y) = x + y := by rw [IntKind.wrap_i64]; omega
            go_wp2_with fail
            go_still_tail 18, (by kernel_rfl)
            clear hwp
            go_wp2
            go_roundw
            case rel => exact ⟨j + 1, by omega, by go_num, by rw [HST.out, ← eL_set ts k cur, ← ints_setT]; exact HB2.out.like rfl, below_like (hW2.setCell (by simpa using hsz1) _) rfl, fun p hp => ((below_like ((Below.refl w.heap.size wr).setCell (p := ⟨w1.heap.size, k, none⟩) (by simpa using hsz1) (.int .i64 (max cur (x + y)))) rfl).cell hp).trans (HK2.out p hp)⟩
            case measure => simp [intOf]; omega
          · obtain rfl : j = xs.length := by omega
            rw [HEK.out] at hB
            have HB3 := Lib.hid hB
            clear hB hkeep hso
            go_wp2
            go_roundw
            case rel => exact ⟨k + 1, by omega, by go_num, HB3.out, hW2⟩
            case measure => simp [intOf]; omega
      · obtain rfl : k = ts.length := by omega
        rw [eK_end] at hB
        have HB := Lib.hid hB
        clear hB
        go_wp2
        go_ret
        refine ⟨_, rfl, ?_, hW⟩
        rw [HE.out]
        have := HB.out.ownI b1.size (by rw [early_length]; simp [maxLen]; omega)
        rwa [early_length] at this

set_option maxRecDepth 20000 in
set_option maxHeartbeats 4000000 in
theorem impl_tasksEnd (A : Option Addr) (c : Nat) (ts : List Tsk) (w : World) (h : ST w w.heap.size A ts) (hl : ts.length + totT ts ≤ 1048576) :
    Calls Try.prog 62 #[.slice A ts.length c] w fun e w' => e = .returned (.int .i64 (endF ts)) ∧ Below w.heap.size w w' := by
  cases hs : tasksB ts
  · have HE := Lib.hid (endF_no hs)
    go_enter Try.func62, Try.ntmps62
    go_wp2_with (go_at_call 59; refine (impl_tasksValid A c ts _ h hl).mono ?_; rintro e w1 ⟨rfl, b1⟩)
    go_ret
    exact ⟨ret_int HE.out.symm, b1⟩
  · have HE := Lib.hid (endF_yes hs)
    have HS := Lib.hid hs
    have h7 := tasks_len hs
    have HEY := Lib.hid (earlyF_yes hs)
    go_enter Try.func62, Try.ntmps62
    go_wp2_with (go_at_call 59; refine (impl_tasksValid A c ts _ h hl).mono ?_; rintro e w1 ⟨rfl, b1⟩)
    clear hs
    go_wp2_with fail
    refine (impl_startsEarly A c ts _ ((h.below b1).more b1.size) hl).mono ?_
    rintro e w2 ⟨v, rfl, o, b2⟩
    rw [HEY.out] at o
    obtain ⟨A2, c2, rfl, r2, -⟩ := o.form
    have b3 := below_step b1 b2
    have HEL := Lib.hid (early_length ts ts.length)
    clear o
    rw [HEL.out]
    go_wp2
    go_loop [3, 12] (fun m i => ∃ k : Nat, k ≤ ts.length ∧ i = .int .i64 k ∧ m = .int .i64 (endT ts (early ts ts.length) k)) (fun _ i => ts.length - (intOf i).toNat)
    case atStart => exact ⟨0, Nat.zero_le _, rfl, rfl⟩
    case round =>
      obtain ⟨k, hk, rfl, rfl⟩ := hrel
      by_cases hlt : k < ts.length
      · obtain ⟨b, off, rfl, hbl, hc⟩ := (h.below b3).atT (by omega)
        obtain ⟨hck0, -⟩ := hc k hlt
        obtain ⟨b', off', rfl, hbl', hc'⟩ := r2.at0_ (by rw [HEL.out]; omega)
        have hy := hc' k (by rw [HEL.out]; omega)
        have hb1 := early_bound HS.out ts.length k
        have hb2 := task_span HS.out k
        have hb3 := endT_bound HS.out ts.length k
        have HEK : Hid (endT ts (early ts ts.length) (k + 1) = max (endT ts (early ts ts.length) k) (at0 (early ts ts.length) k + (tat ts k).1)) := Lib.hid rfl
        clear hc hc'
        generalize endT ts (early ts ts.length) k = cur at *
        generalize at0 (early ts ts.length) k = x at *
        generalize (tat ts k).1 = y at *
        go_wp2
        go_round
        case rel => exact ⟨k + 1, by omega, by go_num, by rw [HEK.out]⟩
        case measure => simp [intOf]; omega
      · obtain rfl : k = ts.length := by omega
        go_wp2
        go_ret
        exact ⟨ret_int HE.out.symm, b3⟩
set_option maxRecDepth 20000 in
set_option maxHeartbeats 4000000 in
theorem spec_tasksEnd (A : Option Addr) (c : Nat) (ts : List Tsk) (w : World) (h : ST w w.heap.size A ts) (hl : ts.length + totT ts ≤ 1048576) :
    Calls Try.prog 57 #[.slice A ts.length c] w fun e w' => e = .returned (.int .i64 (endF ts)) ∧ Below w.heap.size w w' := by
  cases hs : tasksB ts
  · have HE := Lib.hid (endF_no hs)
    go_enter Try.func57, Try.ntmps57
    go_wp2_with (go_at_call 71; refine (spec_tasksValid A c ts _ _ h hl).mono ?_; rintro e w1 ⟨rfl, q, rfl⟩)
    go_ret
    exact ⟨ret_int HE.out.symm, below_n q⟩
  · have HE := Lib.hid (endF_yes hs)
    have HS := Lib.hid hs
    have h7 := tasks_len hs
    have HEY := Lib.hid (earlyF_yes hs)
    go_enter Try.func57, Try.ntmps57
    go_wp2_with fail
    refine (spec_tasksValid A c ts _ _ h hl).mono ?_
    rintro e w1 ⟨rfl, hq⟩
    have b1 : Below w.heap.size w w1 := by obtain ⟨q, rfl⟩ := hq; exact below_n q
    clear hq
    go_wp2_with fail
    clear hs
    refine (spec_startsEarly A c ts _ ((h.below b1).more b1.size) hl).mono ?_
    rintro e w2 ⟨v, rfl, o, b2⟩
    rw [HEY.out] at o
    obtain ⟨A2, c2, rfl, r2, -⟩ := o.form
    have b3 := below_step b1 b2
    have HEL := Lib.hid (early_length ts ts.length)
    clear o
    go_wp2
    go_loopw [3, 5] (fun m i wr => ∃ k : Nat, k ≤ ts.length ∧ i = .int .i64 k ∧ m = .int .i64 (endT ts (early ts ts.length) k) ∧ ∃ q, wr = w2.drewN q) (fun _ i _ => ts.length - (intOf i).toNat)
    case atStart => exact ⟨0, Nat.zero_le _, rfl, rfl, 0, rfl⟩
    case round =>
      obtain ⟨k, hk, rfl, rfl, q, rfl⟩ := hrel
      by_cases hlt : k < ts.length
      · obtain ⟨b, off, rfl, hbl, hc⟩ := (h.below b3).atT (by omega)
        obtain ⟨hck0, -⟩ := hc k hlt
        obtain ⟨b', off', rfl, hbl', hc'⟩ := r2.at0_ (by rw [HEL.out]; omega)
        have hy := hc' k (by rw [HEL.out]; omega)
        have hb1 := early_bound HS.out ts.length k
        have hb2 := task_span HS.out k
        have hb3 := endT_bound HS.out ts.length k
        have HEK : Hid (endT ts (early ts ts.length) (k + 1) = max (endT ts (early ts ts.length) k) (at0 (early ts ts.length) k + (tat ts k).1)) := Lib.hid rfl
        have hkl : k < (early ts ts.length).length := by rw [HEL.out]; exact hlt
        clear hc hc'
        generalize endT ts (early ts ts.length) k = cur at *
        generalize at0 (early ts ts.length) k = x at *
        generalize (tat ts k).1 = y at *
        have hwp : IntKind.i64.wrap (x + y) = x + y := by rw [IntKind.wrap_i64]; omega
        go_wp2_with fail
        go_quiet (fail)
        clear hwp
        go_wp2
        go_roundw
        case rel => first | exact ⟨k + 1, by omega, by go_num, by rw [HEK.out], _, rfl⟩ | exact ⟨k + 1, by omega, by go_num, by rw [HEK.out], _, World.drewN_drewN _ _ _⟩
        case measure => simp [intOf]; omega
      · obtain rfl : k = ts.length := by omega
        go_wp2
        go_ret
        exact ⟨ret_int HE.out.symm, below_drewN b3 _⟩
end Go.Proofs.Ytgndokhehooplaa
