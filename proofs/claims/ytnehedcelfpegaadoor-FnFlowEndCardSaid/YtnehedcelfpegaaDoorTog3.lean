/- TogetherBest: what the reference computes. -/
import Derived.Test.YtnehedcelfpegaaDoorTogQ
set_option linter.unusedVariables false
set_option linter.unusedSimpArgs false
namespace Go.Proofs.YtnehedcelfpegaaDoor
open Go.ChangeShapes Go.WideShapes Go.ChangeAt Go.RowKit
theorem int_EI3 : EI Tryd.prog 23 3 1 8 := EI.mk Tryd.underlying23 int_info rfl (by omega)
theorem bkt_len (xs : List Int) : ∀ t, (bkt xs t).length ≤ t * xs.length
  | 0 => by simp [bkt]
  | t + 1 => by
    have h1 := bkt_len xs t
    have h2 := List.length_filter_le (fun z => at0 xs z.toNat == 30 - (t : Int)) (idx xs.length)
    rw [idx_length] at h2
    rw [bkt, List.length_append, bkF, Nat.succ_mul]; omega
theorem bkF_succ (xs : List Int) (t k : Nat) : bkF xs t (k + 1) = bkF xs t k ++ (if at0 xs k = 30 - (t : Int) then [(k : Int)] else []) := by
  rw [bkF, idx_succ, List.filter_append, bkF]
  by_cases h : at0 xs k = 30 - (t : Int) <;> simp [h]
theorem oi_push {w : World} {base : Nat} {v : Value} {xs : List Int} {k : Int} (h : w.ownsRow base 3 1 v (xs.length + 1) (ints xs ++ [.int .i64 k])) : OI w base v (xs ++ [k]) := by
  rw [OI, ints_append, List.length_append]; exact h
theorem togF_len (xs : List Int) (h : xs.length ≤ 1048576) : (togF xs).length ≤ 1048576 := by
  unfold togF; split
  · rw [sortTo_length, idx_length]; exact h
  · simp
set_option maxHeartbeats 8000000 in
theorem spec_togetherBest (A : Option Addr) (c : Nat) (xs : List Int) (w : World) (h : IS w w.heap.size A xs) (hl : xs.length ≤ 1048576) :
    Calls Tryd.prog 28 #[.slice A xs.length c] w (RetI w (togF xs)) := by
  cases hs : spansB xs
  · have HE := Lib.hid (togF_no hs)
    go_enter Tryd.func28, Tryd.ntmps28
    go_wp2
    go_loopw [3, 4] (fun v s wr => v = .slice (some ⟨w.heap.size, 0, none⟩) 0 0 ∧ s = .int .i64 30 ∧ wr = w.alloc (.cells #[] 3)) (fun _ _ _ => 0)
    case atStart => exact ⟨rfl, rfl, rfl⟩
    case round =>
      obtain ⟨rfl, rfl, rfl⟩ := hrel
      go_wp2_with (go_at_call 14; refine (spec_spansValid A c xs _ _ (h.below (below_al (Below.refl _ _) _)) hl).mono ?_; rintro e w1 ⟨rfl, rfl⟩)
      go_ret
      exact ⟨_, rfl, by rw [HE.out]; exact own_empty w _ _ _ (Nat.le_refl _), below_al (Below.refl _ _) _⟩
  · have HE := Lib.hid (togF_bkt hs)
    have HS := Lib.hid hs
    have h6 := spans_len hs
    go_enter Tryd.func28, Tryd.ntmps28
    go_wp2
    go_loopw [3, 4] (fun v s wr => ∃ (t : Nat) (v0 : Value), t ≤ 31 ∧ v0 = v ∧ s = .int .i64 (30 - (t : Int)) ∧ OI wr w.heap.size v0 (bkt xs t) ∧ Below w.heap.size w wr) (fun _ s _ => (intOf s + 1).toNat)
    case atStart => exact ⟨0, _, by omega, rfl, by go_num, own_empty w _ _ _ (Nat.le_refl _), below_al (Below.refl _ _) _⟩
    case round =>
      obtain ⟨t, v, ht, rfl, rfl, hO, hW⟩ := hrel
      obtain ⟨wo, rfl⟩ : ∃ wo : World, wo = wr := ⟨_, rfl⟩
      by_cases hlt : t ≤ 30
      · have ht0 : (0 : Int) ≤ 30 - (t : Int) := by omega
        have ht1 : (t : Int) ≤ 30 := by omega
        have ht2 : decide ((t : Int) ≤ 30) = true := decide_eq_true ht1
        have hbl := bkt_len xs t
        have hbl2 : (bkt xs t).length ≤ 300 := Nat.le_trans hbl (Nat.le_trans (Nat.mul_le_mul (show t ≤ 30 by omega) h6) (by omega))
        clear hbl
        go_wp2_with (go_at_call 14; refine (spec_spansValid A c xs _ _ (h.below hW) hl).mono ?_; rintro e w1 ⟨rfl, rfl⟩)
        clear hs
        go_loopw [3, 5] (fun v9 s9 wx => ∃ (k : Nat) (v0 : Value), k ≤ xs.length ∧ v0 = v9 ∧ s9 = .int .i64 (k : Int) ∧ OI wx w.heap.size v0 (bkt xs t ++ bkF xs t k) ∧ Below w.heap.size w wx) (fun _ s _ => xs.length - (intOf s).toNat)
        case atStart => exact ⟨0, _, by omega, rfl, rfl, by simpa [bkF, idx] using hO, hW⟩
        case round =>
          clear hO hW
          obtain ⟨k, v2, hk, rfl, rfl, hO, hW⟩ := hrel
          by_cases hlt2 : k < xs.length
          · obtain ⟨b, off, rfl, hbl, hc⟩ := (h.below hW).at0_ (by omega)
            have hck := hc k hlt2
            clear hc
            have hbs := bkF_succ xs t k
            have hfl : (bkF xs t k).length ≤ 6 := by
              have h2 := List.length_filter_le (fun z => at0 xs z.toNat == 30 - (t : Int)) (idx k)
              rw [idx_length] at h2
              unfold bkF; omega
            have hll : (bkt xs t ++ bkF xs t k).length ≤ 306 := by rw [List.length_append]; omega
            by_cases he : at0 xs k = 30 - (t : Int)
            · rw [if_pos he] at hbs
              have HBS := Lib.hid hbs
              have heb : (at0 xs k == 30 - (t : Int)) = true := by simpa using he
              clear hbs he hfl
              unfold OI at hO
              generalize hLL : bkt xs t ++ bkF xs t k = LL at *
              have HLL := Lib.hid hLL
              clear hLL
              go_wp2_with (at_builtin; refine wpList_app _ rfl (.tmp 27) (.tmp 29) 23 rfl int_EI3 w.heap.size v2 LL.length _ rfl (hO.alloc _) (some ⟨wr.heap.size, 0, none⟩) 1 1 [.int .i64 k] rfl rfl (rv_new _ _ _) (one1 _) (le_max (by omega)) (by omega) (below_al hW _).size ?_; intro v3 w3 hO3 hg3 _)
              go_roundw
              case rel => exact ⟨k + 1, _, by omega, rfl, by go_num, by rw [HBS.out, ← List.append_assoc, HLL.out]; exact oi_push hO3, below_app (below_al hW _) (hO.alloc _) hg3⟩
              case measure => simp [intOf]; omega
            · rw [if_neg he, List.append_nil] at hbs
              have HBS := Lib.hid hbs
              have heb : (at0 xs k == 30 - (t : Int)) = false := by simpa using he
              have HO := Lib.hid hO
              clear hbs he hfl hO
              go_wp2
              go_roundw
              case rel => exact ⟨k + 1, _, by omega, rfl, by go_num, by rw [HBS.out]; exact HO.out, hW⟩
              case measure => simp [intOf]; omega
          · obtain rfl : k = xs.length := by omega
            have HO := Lib.hid hO
            clear hO
            go_wp2
            go_roundw
            case rel => exact ⟨t + 1, _, by omega, rfl, by go_num, by rw [bkt]; exact HO.out, hW⟩
            case measure => simp [intOf]; omega
      · obtain rfl : t = 31 := by omega
        have HO := Lib.hid hO
        clear hO
        go_wp2
        go_ret
        exact ⟨_, rfl, by rw [HE.out]; exact HO.out, hW⟩
end Go.Proofs.YtnehedcelfpegaaDoor
