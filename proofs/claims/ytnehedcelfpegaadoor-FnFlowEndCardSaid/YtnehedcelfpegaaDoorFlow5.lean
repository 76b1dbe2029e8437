/- FlowBest, FlowLeast of the reference; FlowLeast of the program. -/
import Derived.Test.YtnehedcelfpegaaDoorFlow4
set_option linter.unusedVariables false
set_option linter.unusedSimpArgs false
namespace Go.Proofs.YtnehedcelfpegaaDoor
open Go.ChangeShapes Go.WideShapes Go.ChangeAt Go.RowKit
theorem fb1_len (ds : List Dsh) (h : ds.length ≤ 6) : ∀ t, (fb1 ds t).length ≤ 6 * t
  | 0 => by simp [fb1]
  | t + 1 => by
    have h1 := fb1_len ds h t
    have h2 := sel_len (p1 ds t) ds.length
    rw [fb1, List.length_append]; omega
theorem fb2_len (ds : List Dsh) (h : ds.length ≤ 6) : ∀ t, (fb2 ds t).length ≤ 6 * t
  | 0 => by simp [fb2]
  | t + 1 => by
    have h1 := fb2_len ds h t
    have h2 := sel_len (p2 ds t) ds.length
    rw [fb2, List.length_append]; omega
set_option maxRecDepth 20000 in
set_option maxHeartbeats 16000000 in
theorem spec_flowBest (A : Option Addr) (c : Nat) (ds : List Dsh) (w : World) (h : SD w w.heap.size A ds) (hl : ds.length ≤ 1048576) :
    Calls Tryd.prog 35 #[.slice A ds.length c] w (RetI w (bestF ds)) := by
  cases hs : dishB ds
  · have HE := Lib.hid (bestF_no hs)
    go_enter Tryd.func35, Tryd.ntmps35
    go_wp2
    go_loopw [3, 4] (fun v s wr => v = .slice (some ⟨w.heap.size, 0, none⟩) 0 0 ∧ s = .int .i64 0 ∧ wr = w.alloc (.cells #[] 3)) (fun _ _ _ => 0)
    case atStart => exact ⟨rfl, rfl, rfl⟩
    case round =>
      obtain ⟨rfl, rfl, rfl⟩ := hrel
      go_wp2_with (go_at_call 18; refine (spec_dishesValid A c ds _ _ (h.below (below_al (Below.refl _ _) _)) hl).mono ?_; rintro e w1 ⟨rfl, rfl⟩)
      go_loopw [3, 6] (fun v s wr => v = .slice (some ⟨w.heap.size, 0, none⟩) 0 0 ∧ s = .int .i64 30 ∧ wr = w.alloc (.cells #[] 3)) (fun _ _ _ => 0)
      case atStart => exact ⟨rfl, rfl, rfl⟩
      case round =>
        obtain ⟨rfl, rfl, rfl⟩ := hrel
        go_wp2_with (go_at_call 18; refine (spec_dishesValid A c ds _ _ (h.below (below_al (Below.refl _ _) _)) hl).mono ?_; rintro e w1 ⟨rfl, rfl⟩)
        go_ret
        exact ⟨_, rfl, by rw [HE.out]; exact own_empty w _ _ _ (Nat.le_refl _), below_al (Below.refl _ _) _⟩
  · have HE := Lib.hid (bestF_fb hs)
    have HS := Lib.hid hs
    have h6 := dish_len hs
    go_enter Tryd.func35, Tryd.ntmps35
    go_wp2
    go_loopw [3, 4] (fun v s wr => ∃ (t : Nat) (v0 : Value), t ≤ 31 ∧ v0 = v ∧ s = .int .i64 (t : Int) ∧ OI wr w.heap.size v0 (fb1 ds t) ∧ Below w.heap.size w wr) (fun _ s _ => (31 - intOf s).toNat)
    case atStart => exact ⟨0, _, by omega, rfl, by go_num, own_empty w _ _ _ (Nat.le_refl _), below_al (Below.refl _ _) _⟩
    case round =>
      obtain ⟨t, v, ht, rfl, rfl, hO, hW⟩ := hrel
      obtain ⟨wo, rfl⟩ : ∃ wo : World, wo = wr := ⟨_, rfl⟩
      by_cases hlt : t ≤ 30
      · have ht1 : (t : Int) ≤ 30 := by omega
        have ht2 : decide ((t : Int) ≤ 30) = true := decide_eq_true ht1
        have hbl2 : (fb1 ds t).length ≤ 300 := by have := fb1_len ds h6 t; omega
        go_wp2_with (go_at_call 18; refine (spec_dishesValid A c ds _ _ (h.below hW) hl).mono ?_; rintro e w1 ⟨rfl, rfl⟩)
        clear hs
        go_loopw [3, 5] (fun v9 s9 wx => ∃ (k : Nat) (v0 : Value), k ≤ ds.length ∧ v0 = v9 ∧ s9 = .int .i64 (k : Int) ∧ OI wx w.heap.size v0 (fb1 ds t ++ sel (p1 ds t) k) ∧ Below w.heap.size w wx) (fun _ s _ => ds.length - (intOf s).toNat)
        case atStart => exact ⟨0, _, by omega, rfl, rfl, by rw [sel_zero, List.append_nil]; exact hO, hW⟩
        case round =>
          clear hO hW
          obtain ⟨k, v2, hk, rfl, rfl, hO, hW⟩ := hrel
          by_cases hlt2 : k < ds.length
          · obtain ⟨b, off, rfl, hbl, hc⟩ := (h.below hW).atD (by omega)
            obtain ⟨hck1, hck2⟩ := hc k hlt2
            clear hc
            have hsl := sel_len (p1 ds t) k
            have hll : (fb1 ds t ++ sel (p1 ds t) k).length ≤ 1000 := by rw [List.length_append]; omega
            have HP : Hid (p1 ds t (k : Int) = (decide (dP ds k < dC ds k) && (dP ds k == (t : Int)))) := Lib.hid rfl
            clear hsl
            generalize hLL : fb1 ds t ++ sel (p1 ds t) k = LL at *
            have HLL := Lib.hid hLL
            clear hLL
            by_cases hg : dP ds k < dC ds k
            · have hgd : decide (dP ds k < dC ds k) = true := decide_eq_true hg
              by_cases he : dP ds k = (t : Int)
              · have hbs := sel_yes (p := p1 ds t) (k := k) (by rw [HP.out, decide_eq_true hg, he]; simp)
                have HBS := Lib.hid hbs
                have heb : (dP ds k == (t : Int)) = true := by simpa using he
                clear hbs he
                unfold OI at hO
                go_wp2_with fail
                go_quiet (fail)
                go_wp2_with (at_builtin; refine wpList_app _ rfl (.tmp 43) (.tmp 45) 23 rfl int_EI3 w.heap.size v2 LL.length _ rfl ((own_like2 hO rfl).alloc _) (some ⟨_, 0, none⟩) 1 1 [.int .i64 k] rfl rfl (rv_new _ _ _) (one1 _) (le_max (by omega)) (by omega) (below_al (below_drewN hW _) _).size ?_; intro v3 w3 hO3 hg3 _)
                go_roundw
                case rel => exact ⟨k + 1, _, by omega, rfl, by go_num, by rw [HBS.out, ← List.append_assoc, HLL.out]; exact oi_push hO3, below_app (below_al (below_drewN hW _) _) ((own_like2 hO rfl).alloc _) hg3⟩
                case measure => simp [intOf]; omega
              · have hbs := sel_no (p := p1 ds t) (k := k) (by rw [HP.out]; simp [hg, he])
                have HBS := Lib.hid hbs
                have heb : (dP ds k == (t : Int)) = false := by simpa using he
                have HO := Lib.hid hO
                clear hbs he hO
                go_wp2_with fail
                go_quiet (fail)
                go_wp2
                go_roundw
                case rel => exact ⟨k + 1, _, by omega, rfl, by go_num, by rw [HBS.out, HLL.out]; exact own_like2 HO.out rfl, below_drewN hW _⟩
                case measure => simp [intOf]; omega
            · have hgd : decide (dP ds k < dC ds k) = false := decide_eq_false hg
              have hbs := sel_no (p := p1 ds t) (k := k) (by rw [HP.out]; simp [hg])
              have HBS := Lib.hid hbs
              have HO := Lib.hid hO
              clear hbs hO
              go_wp2_with fail
              go_quiet (fail)
              go_wp2
              go_roundw
              case rel => exact ⟨k + 1, _, by omega, rfl, by go_num, by rw [HBS.out, HLL.out]; exact own_like2 HO.out rfl, below_drewN hW _⟩
              case measure => simp [intOf]; omega
          · obtain rfl : k = ds.length := by omega
            have HO := Lib.hid hO
            clear hO
            go_wp2
            go_roundw
            case rel => exact ⟨t + 1, _, by omega, rfl, by go_num, by rw [fb1]; exact HO.out, hW⟩
            case measure => simp [intOf]; omega
      · obtain rfl : t = 31 := by omega
        have hbl3 : (fb1 ds 31).length ≤ 300 := by have := fb1_len ds h6 31; omega
        go_wp2
        go_loopw [3, 6] (fun v s wr => ∃ (t : Nat) (v0 : Value), t ≤ 31 ∧ v0 = v ∧ s = .int .i64 (30 - (t : Int)) ∧ OI wr w.heap.size v0 (fb1 ds 31 ++ fb2 ds t) ∧ Below w.heap.size w wr) (fun _ s _ => (intOf s + 1).toNat)
        case atStart => exact ⟨0, _, by omega, rfl, by go_num, by simpa [fb2] using hO, hW⟩
        case round =>
          clear hO hW ht
          obtain ⟨t, v, ht, rfl, rfl, hO, hW⟩ := hrel
          obtain ⟨wo2, rfl⟩ : ∃ wo2 : World, wo2 = wr := ⟨_, rfl⟩
          by_cases hlt : t ≤ 30
          · have ht0 : (0 : Int) ≤ 30 - (t : Int) := by omega
            have ht1 : (t : Int) ≤ 30 := by omega
            have ht2 : decide ((t : Int) ≤ 30) = true := decide_eq_true ht1
            have hbl2 : (fb1 ds 31 ++ fb2 ds t).length ≤ 600 := by have := fb2_len ds h6 t; rw [List.length_append]; omega
            go_wp2_with (go_at_call 18; refine (spec_dishesValid A c ds _ _ (h.below hW) hl).mono ?_; rintro e w1 ⟨rfl, rfl⟩)
            clear hs
            go_loopw [3, 7] (fun v9 s9 wx => ∃ (k : Nat) (v0 : Value), k ≤ ds.length ∧ v0 = v9 ∧ s9 = .int .i64 (k : Int) ∧ OI wx w.heap.size v0 ((fb1 ds 31 ++ fb2 ds t) ++ sel (p2 ds t) k) ∧ Below w.heap.size w wx) (fun _ s _ => ds.length - (intOf s).toNat)
            case atStart => exact ⟨0, _, by omega, rfl, rfl, by rw [sel_zero, List.append_nil]; exact hO, hW⟩
            case round =>
              clear hO hW
              obtain ⟨k, v2, hk, rfl, rfl, hO, hW⟩ := hrel
              by_cases hlt2 : k < ds.length
              · obtain ⟨b, off, rfl, hbl, hc⟩ := (h.below hW).atD (by omega)
                obtain ⟨hck1, hck2⟩ := hc k hlt2
                clear hc
                have hsl := sel_len (p2 ds t) k
                have hll : ((fb1 ds 31 ++ fb2 ds t) ++ sel (p2 ds t) k).length ≤ 1000 := by rw [List.length_append]; omega
                have HP : Hid (p2 ds t (k : Int) = (!decide (dP ds k < dC ds k) && (dC ds k == 30 - (t : Int)))) := Lib.hid rfl
                clear hsl
                generalize hLL : (fb1 ds 31 ++ fb2 ds t) ++ sel (p2 ds t) k = LL at *
                have HLL := Lib.hid hLL
                clear hLL
                by_cases hg : dP ds k < dC ds k
                · have hgd : decide (dC ds k ≤ dP ds k) = false := decide_eq_false (by omega)
                  have hbs := sel_no (p := p2 ds t) (k := k) (by rw [HP.out]; simp [hg])
                  have HBS := Lib.hid hbs
                  have HO := Lib.hid hO
                  clear hbs hO
                  go_wp2_with fail
                  go_quiet (fail)
                  go_wp2
                  go_roundw
                  case rel => exact ⟨k + 1, _, by omega, rfl, by go_num, by rw [HBS.out, HLL.out]; exact own_like2 HO.out rfl, below_drewN hW _⟩
                  case measure => simp [intOf]; omega
                · have hgd : decide (dC ds k ≤ dP ds k) = true := decide_eq_true (by omega)
                  by_cases he : dC ds k = 30 - (t : Int)
                  · have hbs := sel_yes (p := p2 ds t) (k := k) (by rw [HP.out, decide_eq_false hg, he]; simp)
                    have HBS := Lib.hid hbs
                    have heb : (dC ds k == 30 - (t : Int)) = true := by simpa using he
                    clear hbs he
                    unfold OI at hO
                    go_wp2_with fail
                    go_quiet (fail)
                    go_wp2_with (at_builtin; refine wpList_app _ rfl (.tmp 81) (.tmp 83) 23 rfl int_EI3 w.heap.size v2 LL.length _ rfl ((own_like2 hO rfl).alloc _) (some ⟨_, 0, none⟩) 1 1 [.int .i64 k] rfl rfl (rv_new _ _ _) (one1 _) (le_max (by omega)) (by omega) (below_al (below_drewN hW _) _).size ?_; intro v3 w3 hO3 hg3 _)
                    go_roundw
                    case rel => exact ⟨k + 1, _, by omega, rfl, by go_num, by rw [HBS.out, ← List.append_assoc, HLL.out]; exact oi_push hO3, below_app (below_al (below_drewN hW _) _) ((own_like2 hO rfl).alloc _) hg3⟩
                    case measure => simp [intOf]; omega
                  · have hbs := sel_no (p := p2 ds t) (k := k) (by rw [HP.out]; simp [hg, he])
                    have HBS := Lib.hid hbs
                    have heb : (dC ds k == 30 - (t : Int)) = false := by simpa using he
                    have HO := Lib.hid hO
                    clear hbs he hO
                    go_wp2_with fail
                    go_quiet (fail)
                    go_wp2
                    go_roundw
                    case rel => exact ⟨k + 1, _, by omega, rfl, by go_num, by rw [HBS.out, HLL.out]; exact own_like2 HO.out rfl, below_drewN hW _⟩
                    case measure => simp [intOf]; omega
              · obtain rfl : k = ds.length := by omega
                have HO := Lib.hid hO
                clear hO
                go_wp2
                go_roundw
                case rel => first | exact ⟨t + 1, _, by omega, rfl, by go_num, by rw [fb2, ← List.append_assoc]; exact HO.out, hW⟩ | ((repeat apply Exists.intro); exact ⟨⟨t + 1, _, by omega, rfl, by go_num, by rw [fb2, ← List.append_assoc]; exact HO.out, hW⟩, rfl⟩)
                case measure => simp [intOf]; omega
          · obtain rfl : t = 31 := by omega
            have HO := Lib.hid hO
            clear hO
            go_wp2
            go_ret
            exact ⟨_, rfl, by rw [HE.out]; exact HO.out, hW⟩
theorem bestF_len (ds : List Dsh) (h : ds.length ≤ 1048576) : (bestF ds).length ≤ 1048576 := by
  unfold bestF; split
  · rw [sortTo_length, idx_length]; exact h
  · simp
set_option maxRecDepth 20000 in
set_option maxHeartbeats 4000000 in
theorem impl_flowLeast (A : Option Addr) (c : Nat) (ds : List Dsh) (w : World) (h : SD w w.heap.size A ds) (hl : ds.length ≤ 1048576) :
    Calls Tryd.prog 39 #[.slice A ds.length c] w fun e w' => e = .returned (.int .i64 (endB ds (bestF ds))) ∧ Below w.heap.size w w' := by
  have HL := Lib.hid (bestF_len ds hl)
  cases hd : dishB ds
  · have HE := Lib.hid (endB_dish (bestF ds) hd)
    go_enter Tryd.func39, Tryd.ntmps39
    go_wp2_with (go_at_call 17; refine (impl_dishesValid A c ds _ h hl).mono ?_; rintro e w1 ⟨rfl, b1⟩)
    go_ret
    exact ⟨ret_int HE.out.symm, b1⟩
  · go_enter Tryd.func39, Tryd.ntmps39
    go_wp2_with (go_at_call 17; refine (impl_dishesValid A c ds _ h hl).mono ?_; rintro e w1 ⟨rfl, b1⟩)
    go_wp2_with (go_at_call 34; refine (impl_flowBest A c ds _ ((h.below b1).more b1.size) hl).mono ?_; rintro e w2 ⟨v, rfl, o, b2⟩; obtain ⟨A2, c2, rfl, r2, -⟩ := o.form)
    have b3 := below_step b1 b2
    go_wp2_with (go_at_call 36; refine (impl_flowEnd A A2 c c2 ds _ _ ((h.below b3).more b3.size) r2 hl HL.out).mono ?_; rintro e w4 ⟨rfl, b4⟩)
    go_ret
    exact ⟨rfl, below_step b3 b4⟩
set_option maxRecDepth 20000 in
set_option maxHeartbeats 4000000 in
theorem spec_flowLeast (A : Option Addr) (c : Nat) (ds : List Dsh) (w : World) (h : SD w w.heap.size A ds) (hl : ds.length ≤ 1048576) :
    Calls Tryd.prog 41 #[.slice A ds.length c] w fun e w' => e = .returned (.int .i64 (endB ds (bestF ds))) ∧ Below w.heap.size w w' := by
  have HL := Lib.hid (bestF_len ds hl)
  go_enter Tryd.func41, Tryd.ntmps41
  go_wp2_with (go_at_call 35; refine (spec_flowBest A c ds _ h hl).mono ?_; rintro e w2 ⟨v, rfl, o, b2⟩; obtain ⟨A2, c2, rfl, r2, hcc, -⟩ := o.form)
  go_wp2_with (go_at_call 38; refine (spec_flowEnd A A2 c c2 ds _ _ ((h.below b2).more b2.size) r2 hl HL.out hcc).mono ?_; rintro e w4 ⟨rfl, b4⟩)
  go_ret
  exact ⟨rfl, below_step b2 b4⟩
end Go.Proofs.YtnehedcelfpegaaDoor
