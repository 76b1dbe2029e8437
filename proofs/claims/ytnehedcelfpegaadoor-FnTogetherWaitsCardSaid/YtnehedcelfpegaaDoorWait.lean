/- TogetherWaits: what the program and the reference compute. -/
import Derived.Test.YtnehedcelfpegaaDoorTog3
import Derived.Test.YtnehedcelfpegaaDoorWaitP
import Derived.Lib.MinMax
set_option linter.unusedVariables false
set_option linter.unusedSimpArgs false
namespace Go.Proofs.YtnehedcelfpegaaDoor
open Go.ChangeShapes Go.WideShapes Go.ChangeAt Go.RowKit

def waitF (xs order : List Int) : Int := if spansB xs && orderB order xs.length then wC (sp xs) 0 order else -1
theorem waitF_spans {xs : List Int} (order : List Int) (h : spansB xs = false) : waitF xs order = -1 := by simp [waitF, h]
theorem waitF_order {xs order : List Int} (h : orderB order xs.length = false) : waitF xs order = -1 := by simp [waitF, h]
theorem waitF_ok {xs order : List Int} (h : spansB xs = true) (h2 : orderB order xs.length = true) : waitF xs order = wC (sp xs) 0 order := by simp [waitF, h, h2]
theorem wI_snoc (s : Int → Int) (fin x : Int) : ∀ (l : List Int) (now : Int), wI s fin now (l ++ [x]) = wI s fin now l + (fin - (now + sC s l + s x))
  | [], now => by simp [wI, sC]
  | y :: l, now => by
    rw [List.cons_append, wI, wI, wI_snoc s fin x l, sC_cons]; omega
theorem take_snoc (l : List Int) (k : Nat) (h : k < l.length) : l.take (k + 1) = l.take k ++ [at0 l k] := by
  rw [List.take_succ_eq_append_getElem h, at0_eq h]
theorem sC_bound (xs : List Int) (h : spansB xs = true) : ∀ l : List Int, 0 ≤ sC (sp xs) l ∧ sC (sp xs) l ≤ 30 * l.length
  | [] => by simp [sC]
  | x :: l => by
    have h1 := sC_bound xs h l
    have h2 := spans_bound h x.toNat
    rw [sC_cons, List.length_cons]; unfold sp at *; omega
theorem wC_bound (xs : List Int) (h : spansB xs = true) : ∀ (l : List Int) (t : Nat), 0 ≤ wC (sp xs) t l ∧ wC (sp xs) t l ≤ 30 * (l.length * (t + l.length))
  | [], t => by simp [wC]
  | x :: l, t => by
    have h1 := wC_bound xs h l (t + 1)
    have h2 := spans_bound h x.toNat
    rw [wC, List.length_cons]
    have e : ((t : Int) + 1) = ((t + 1 : Nat) : Int) := by omega
    rw [e]
    have h3 : 0 ≤ (t : Int) * sp xs x ∧ (t : Int) * sp xs x ≤ (t : Int) * 30 := ⟨Int.mul_nonneg (by omega) h2.1, Int.mul_le_mul_of_nonneg_left h2.2 (by omega)⟩
    have h4 : ((l.length + 1) * (t + (l.length + 1)) : Nat) = l.length * (t + 1 + l.length) + (t + 1 + l.length) := by
      rw [Nat.add_mul, Nat.one_mul, show t + (l.length + 1) = t + 1 + l.length by omega]
    have h5 : ((l.length : Int) + 1) * ((t : Int) + ((l.length : Int) + 1)) = (l.length : Int) * ((t : Int) + 1 + l.length) + ((t : Int) + 1 + l.length) := by
      have := congrArg (fun n : Nat => (n : Int)) h4
      simpa [Int.natCast_mul, Int.natCast_add] using this
    have h6 : ((t + 1 : Nat) : Int) = (t : Int) + 1 := by omega
    rw [h6] at h1 ⊢
    simp only [Int.natCast_add, Int.natCast_one] at h1 ⊢
    rw [h5]
    omega
theorem wait_acc {xs order : List Int} (h : spansB xs = true) (ho : order.length ≤ 6) (k : Nat) : 0 ≤ wC (sp xs) 0 (order.take k) ∧ wC (sp xs) 0 (order.take k) ≤ 1080 := by
  have h1 := wC_bound xs h (order.take k) 0
  have h2 : (order.take k).length ≤ 6 := by rw [List.length_take]; omega
  have h3 : (order.take k).length * (0 + (order.take k).length) ≤ 36 := by
    rw [Nat.zero_add]; exact Nat.mul_le_mul h2 h2
  simp only [Int.natCast_zero, Int.zero_add] at h1
  have h4 : ((order.take k).length : Int) * ((order.take k).length : Int) ≤ 36 := by
    rw [Nat.zero_add] at h3
    have := Int.ofNat_le.2 h3
    simpa [Int.natCast_mul] using this
  omega
theorem sC_split (s : Int → Int) (order : List Int) (k : Nat) : sC s order = sC s (order.take k) + sC s (order.drop k) := by
  rw [← sC_append, List.take_append_drop]
theorem wI_acc {xs order : List Int} (h : spansB xs = true) (ho : order.length ≤ 6) : ∀ k, k ≤ order.length → 0 ≤ wI (sp xs) (sC (sp xs) order) 0 (order.take k) ∧ wI (sp xs) (sC (sp xs) order) 0 (order.take k) ≤ 180 * k
  | 0, _ => by simp [wI]
  | k + 1, hk => by
    have ih := wI_acc h ho k (by omega)
    have h3 := sC_split (sp xs) order (k + 1)
    have h4 := sC_bound xs h (order.drop (k + 1))
    have h5 := sC_bound xs h (order.take (k + 1))
    rw [take_snoc order k (by omega), sC_append] at h3
    have h6 : sC (sp xs) [at0 order k] = sp xs (at0 order k) := by simp [sC]
    rw [h6] at h3
    have h7 : ((order.drop (k + 1)).length : Int) ≤ 6 := by rw [List.length_drop]; omega
    have h8 : (sC (sp xs) order) ≤ 180 := by have := sC_bound xs h order; omega
    have h9 := sC_bound xs h (order.take k)
    have h10 := spans_bound h (at0 order k).toNat
    have e : sp xs (at0 order k) = at0 xs (at0 order k).toNat := rfl
    rw [take_snoc order k (by omega), wI_snoc]
    omega
set_option maxRecDepth 20000 in
set_option maxHeartbeats 8000000 in
theorem impl_togetherWaits (A A2 : Option Addr) (c c2 : Nat) (xs order : List Int) (w : World) (h : IS w w.heap.size A xs) (h2 : IS w w.heap.size A2 order)
    (hl : xs.length ≤ 1048576) (hl2 : order.length ≤ 1048576) :
    Calls Tryd.prog 30 #[.slice A xs.length c, .slice A2 order.length c2] w fun e w' => e = .returned (.int .i64 (waitF xs order)) ∧ Below w.heap.size w w' := by
  cases hs : spansB xs
  · have HE := Lib.hid (waitF_spans order hs)
    go_enter Tryd.func30, Tryd.ntmps30
    go_wp2_with (go_at_call 13; refine (impl_spansValid A c xs _ _ h hl).mono ?_; rintro e w1 ⟨rfl, rfl⟩)
    go_ret
    exact ⟨ret_int HE.out.symm, Below.refl _ _⟩
  · cases ho : orderB order xs.length
    · have HE := Lib.hid (waitF_order ho)
      go_enter Tryd.func30, Tryd.ntmps30
      go_wp2_with fail
      refine (impl_spansValid A c xs _ _ h hl).mono ?_
      rintro e w1 ⟨rfl, rfl⟩
      go_wp2_with fail
      refine (impl_orderOk A2 c2 order xs.length _ h2 hl2 hl).mono ?_
      rintro e w1 ⟨rfl, b1⟩
      go_wp2
      go_ret
      exact ⟨ret_int HE.out.symm, b1⟩
    · have HE := Lib.hid (waitF_ok hs ho)
      have h6 := spans_len hs
      have hol1 : order.length ≤ xs.length := by rw [ord_len ho]; exact Nat.le_refl _
      have hol2 : xs.length ≤ order.length := by rw [ord_len ho]; exact Nat.le_refl _
      have HO := Lib.hid ho
      have HS := Lib.hid hs
      have HB := Lib.hid (fun x (hx : x ∈ xs) => by
        obtain ⟨k, hk, e⟩ := List.getElem_of_mem hx
        have := spans_bound hs k
        rw [← at0_eq hk, e] at this
        exact (show -1000000 ≤ x ∧ x ≤ 1000000 by omega))
      have HF := Lib.hid (sum_order (xs := xs) ho)
      have HFB := Lib.hid (sC_bound xs hs order)
      go_enter Tryd.func30, Tryd.ntmps30
      go_wp2_with fail
      refine (impl_spansValid A c xs _ _ h hl).mono ?_
      rintro e w1 ⟨rfl, rfl⟩
      go_wp2_with fail
      refine (impl_orderOk A2 c2 order xs.length _ h2 hl2 hl).mono ?_
      rintro e w1 ⟨rfl, b1⟩
      have hr := (IS.below h b1).more b1.size
      have hr2 := (IS.below h2 b1).more b1.size
      rw [HO.out]
      clear hs ho
      go_wp2_with fail
      refine (sumOf_any A c xs _ _ hr hl HB.out).mono ?_
      rintro e w2 ⟨rfl, rfl⟩
      rw [← HF.out]
      have HW := Lib.hid (wI_eq (sp xs) order 0)
      have HAC := Lib.hid (fun k hk => wI_acc (order := order) HS.out (by omega) k hk)
      have hfb := HFB.out
      obtain ⟨fin, hfin⟩ : ∃ fin, sC (sp xs) order = fin := ⟨_, rfl⟩
      rw [hfin] at hfb HAC HW ⊢
      have HFIN := Lib.hid hfin
      clear hfin
      go_wp2
      go_loop [6, 7, 24] (fun a b i => ∃ k : Nat, k ≤ order.length ∧ i = .int .i64 k ∧ a = .int .i64 (wI (sp xs) fin 0 (order.take k)) ∧ b = .int .i64 (sC (sp xs) (order.take k))) (fun _ _ i => order.length - (intOf i).toNat)
      case atStart => exact ⟨0, Nat.zero_le _, rfl, rfl, rfl⟩
      case round =>
        obtain ⟨k, hk, rfl, rfl, rfl⟩ := hrel
        by_cases hlt : k < order.length
        · obtain ⟨b, off, rfl, hbl, hcc⟩ := hr2.at0_ (by omega)
          have e1 := hcc k hlt
          have hin := ord_at HO.out k hlt
          obtain ⟨a, hai⟩ : ∃ a : Nat, at0 order k = a := ⟨(at0 order k).toNat, by omega⟩
          have HSN := Lib.hid (take_snoc order k hlt)
          rw [hai] at e1 hin HSN
          obtain ⟨b', off', rfl, hbl', hcc'⟩ := hr.at0_ (by omega)
          have e2 := hcc' a (by omega)
          have hb1 := HAC.out k (by omega)
          have hb2 := sC_bound xs HS.out (order.take k)
          have hb3 := spans_bound HS.out a
          have hlk : (order.take k).length ≤ 6 := by rw [List.length_take]; omega
          have HN1 : Hid (wI (sp xs) fin 0 (order.take (k + 1)) = wI (sp xs) fin 0 (order.take k) + (fin - (sC (sp xs) (order.take k) + at0 xs a))) := Lib.hid (by rw [HSN.out, wI_snoc, Int.zero_add]; rfl)
          have HN2 : Hid (sC (sp xs) (order.take (k + 1)) = sC (sp xs) (order.take k) + at0 xs a) := Lib.hid (by rw [HSN.out, sC_append]; simp [sC, sp])
          have hz1 : (a : Int) < (xs.length : Int) := by omega
          clear hcc hcc' hai
          generalize wI (sp xs) fin 0 (order.take k) = p at *
          generalize sC (sp xs) (order.take k) = q at *
          generalize at0 xs a = y at *
          go_wp2
          go_round
          case rel => exact ⟨k + 1, by omega, by go_num, by rw [HN1.out], by rw [HN2.out]⟩
          case measure => (simp [intOf]) <;> omega
        · obtain rfl : k = order.length := by omega
          rw [List.take_length]
          go_wp2
          go_ret
          refine ⟨ret_int ?_, b1⟩
          rw [HE.out, ← HW.out, Int.zero_add]
set_option maxRecDepth 20000 in
set_option maxHeartbeats 8000000 in
theorem spec_togetherWaits (A A2 : Option Addr) (c c2 : Nat) (xs order : List Int) (w : World) (h : IS w w.heap.size A xs) (h2 : IS w w.heap.size A2 order)
    (hl : xs.length ≤ 1048576) (hl2 : order.length ≤ 1048576) (hc2 : order.length ≤ c2) :
    Calls Tryd.prog 31 #[.slice A xs.length c, .slice A2 order.length c2] w fun e w' => e = .returned (.int .i64 (waitF xs order)) ∧ Below w.heap.size w w' := by
  cases hs : spansB xs
  · have HE := Lib.hid (waitF_spans order hs)
    go_enter Tryd.func31, Tryd.ntmps31
    go_wp2_with (go_at_call 14; refine (spec_spansValid A c xs _ _ h hl).mono ?_; rintro e w1 ⟨rfl, rfl⟩)
    go_ret
    exact ⟨ret_int HE.out.symm, Below.refl _ _⟩
  · cases ho : orderB order xs.length
    · have HE := Lib.hid (waitF_order ho)
      go_enter Tryd.func31, Tryd.ntmps31
      go_wp2_with fail
      refine (spec_spansValid A c xs _ _ h hl).mono ?_
      rintro e w1 ⟨rfl, rfl⟩
      go_wp2_with fail
      refine (spec_orderOk A2 c2 order xs.length _ _ h2 hl2 hc2 hl).mono ?_
      rintro e w1 ⟨rfl, q, rfl⟩
      go_wp2
      go_ret
      exact ⟨ret_int HE.out.symm, below_n q⟩
    · have HE := Lib.hid (waitF_ok hs ho)
      have h6 := spans_len hs
      have hol1 : order.length ≤ xs.length := by rw [ord_len ho]; exact Nat.le_refl _
      have hol2 : xs.length ≤ order.length := by rw [ord_len ho]; exact Nat.le_refl _
      have HO := Lib.hid ho
      have HS := Lib.hid hs
      have HAC := Lib.hid (fun k => wait_acc (order := order) hs (by omega) k)
      go_enter Tryd.func31, Tryd.ntmps31
      go_wp2_with fail
      refine (spec_spansValid A c xs _ _ h hl).mono ?_
      rintro e w1 ⟨rfl, rfl⟩
      go_wp2_with fail
      refine (spec_orderOk A2 c2 order xs.length _ _ h2 hl2 hc2 hl).mono ?_
      rintro e w1 ⟨rfl, q, rfl⟩
      rw [HO.out]
      clear hs ho
      have b1 : Below w.heap.size w (w.drewN q) := below_n q
      have hr : IS (w.drewN q) w.heap.size A xs := IS.below h b1
      have hr2 : IS (w.drewN q) w.heap.size A2 order := IS.below h2 b1
      generalize w.drewN q = w5 at *
      go_wp2
      go_loopw [5, 6] (fun a i wr => ∃ k : Nat, k ≤ order.length ∧ i = .int .i64 k ∧ a = .int .i64 (wC (sp xs) 0 (order.take k)) ∧ ∃ q, wr = w5.drewN q) (fun _ i _ => order.length - (intOf i).toNat)
      case atStart => exact ⟨0, Nat.zero_le _, rfl, rfl, 0, rfl⟩
      case round =>
        obtain ⟨k, hk, rfl, rfl, q5, rfl⟩ := hrel
        by_cases hlt : k < order.length
        · obtain ⟨b, off, rfl, hbl, hcc⟩ := hr2.at0_ (by omega)
          have e1 := hcc k hlt
          have hin := ord_at HO.out k hlt
          obtain ⟨a, hai⟩ : ∃ a : Nat, at0 order k = a := ⟨(at0 order k).toNat, by omega⟩
          have HSN := Lib.hid (take_snoc order k hlt)
          rw [hai] at e1 hin HSN
          obtain ⟨b', off', rfl, hbl', hcc'⟩ := hr.at0_ (by omega)
          have e2 := hcc' a (by omega)
          have hb1 := HAC.out k
          have hb3 := spans_bound HS.out a
          have hk6 : k ≤ 6 := by omega
          have hlk : (order.take k).length = k := by rw [List.length_take]; omega
          have HN1 : Hid (wC (sp xs) 0 (order.take (k + 1)) = wC (sp xs) 0 (order.take k) + (k : Int) * at0 xs a) := Lib.hid (by rw [HSN.out, wC_snoc, hlk, Int.zero_add]; rfl)
          have hmul : 0 ≤ (k : Int) * at0 xs a ∧ (k : Int) * at0 xs a ≤ 180 := by
            refine ⟨Int.mul_nonneg (by omega) hb3.1, ?_⟩
            have h1 : (k : Int) * at0 xs a ≤ (k : Int) * 30 := Int.mul_le_mul_of_nonneg_left hb3.2 (by omega)
            omega
          have hz1 : (a : Int) < (xs.length : Int) := by omega
          clear hcc hcc' hai hlk
          generalize wC (sp xs) 0 (order.take k) = p at *
          generalize at0 xs a = y at *
          obtain ⟨z, hz⟩ : ∃ z, (k : Int) * y = z := ⟨_, rfl⟩
          rw [hz] at hmul HN1
          have hwz : IntKind.i64.wrap ((k : Int) * y) = z := by rw [hz, IntKind.wrap_i64]; omega
          go_wp2_with fail
          try go_quiet (fail)
          try go_wp2
          go_roundw
          case rel => first | exact ⟨k + 1, by omega, by go_num, by rw [HN1.out], _, rfl⟩ | exact ⟨k + 1, by omega, by go_num, by rw [HN1.out], _, World.drewN_drewN _ _ _⟩
          case measure => (simp [intOf]) <;> omega
        · obtain rfl : k = order.length := by omega
          rw [List.take_length]
          go_wp2
          go_ret
          exact ⟨ret_int HE.out.symm, below_drewN b1 _⟩
end Go.Proofs.YtnehedcelfpegaaDoor
