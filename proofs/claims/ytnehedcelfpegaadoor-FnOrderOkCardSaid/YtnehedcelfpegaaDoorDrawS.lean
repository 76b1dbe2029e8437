/- Spans are drawn. -/
import Derived.Test.YtnehedcelfpegaaDoorDraw2
import Derived.Lib.MinMax
set_option linter.unusedVariables false
set_option linter.unusedSimpArgs false
namespace Go.Proofs.YtnehedcelfpegaaDoor
open Go.ChangeShapes Go.WideShapes Go.ChangeAt Go.RowKit

/-- Numbers were drawn. -/
def DrawIP (w : World) (base g M : Nat) (e : Ending) (w' : World) : Prop := ∃ (v : Value) (os : List Int), e = .returned v ∧ OI w' w.heap.size v os ∧ os.length ≤ 100 ∧ Rd w' base g (M + 100) ∧ Chg g (g + 1) w w'
set_option maxHeartbeats 8000000 in
theorem l20Spans_any (base g M : Nat) (n : Int) (w : World) (h : Rd w base g M) (hM : M ≤ 900000) (hn : 0 ≤ n) (hn2 : n ≤ 1000) :
    Calls Tryd.prog 42 #[.pointer (some ⟨g, 0, none⟩), .int .i64 n] w (DrawIP w base g M) := by
  have hg := h.lt
  go_enter Tryd.func42, Tryd.ntmps42
  go_wp2_with fail
  refine (pick_any base g M 7 _ (h.below (below_al (Below.refl _ _) _)) (by omega) (by omega) (by omega)).mono ?_
  rintro e w1 ⟨k0, rfl, ⟨hk0, hk7⟩, r1, c1⟩
  have C1 : Chg g (g + 1) w w1 := (Chg.refl g (g + 1) w).and_al _ |>.trans c1
  have O1 : w1.ownsRow w.heap.size 3 1 (.slice (some ⟨w.heap.size, 0, none⟩) 0 0) 0 [] := own_chg (own_empty w _ 1 _ (Nat.le_refl _)) c1 hg.2
  clear c1 h
  go_wp2
  go_loopw [5, 6] (fun v i wr => ∃ (k : Nat) (v0 : Value) (os : List Int), k ≤ 6 ∧ v0 = v ∧ i = .int .i64 (k : Int) ∧ os.length + k ≤ 6 ∧ OI wr w.heap.size v0 os ∧ Rd wr base g (M + 1 + os.length) ∧ Chg g (g + 1) w wr) (fun _ i _ => (intOf i).toNat)
  case atStart => exact ⟨k0.toNat, _, [], by omega, rfl, by congr 1; omega, by simp; omega, O1, r1, C1⟩
  case round =>
    clear O1 r1 C1
    obtain ⟨k, v, os, hk, rfl, rfl, hxk, hO, hR, hC⟩ := hrel
    cases k with
    | succ k =>
      have hs := hC.size
      go_wp2_with fail
      refine (pick_any base g _ 20 _ hR (by omega) (by omega) (by omega)).mono ?_
      rintro e w2 ⟨y, rfl, ⟨hy0, hy3⟩, r2, c2⟩
      have hO2 : w2.ownsRow w.heap.size 3 1 v os.length (ints os) := own_chg hO c2 hg.2
      have hC2 := hC.trans c2
      clear hO hR c2
      go_wp2_with (at_builtin; refine wpList_app _ rfl _ _ 23 rfl int_EId w.heap.size v os.length _ rfl (hO2.alloc _) (some ⟨_, 0, none⟩) 1 1 [.int .i64 y] rfl rfl (rv_new _ _ _) (one1 _) (le_max (by omega)) (by omega) (hC2.and_al _).size ?_; intro v3 w3 hO3 hg3 _)
      have b3 : Below w.heap.size w2 w3 := below_app' hC2.size (hO2.alloc _) hg3
      go_roundw
      case rel =>
        have e : (os ++ [y]).length = os.length + 1 := by simp
        exact ⟨k, _, os ++ [y], by omega, rfl, by go_num, by omega, oi_pushD hO3, (r2.belowB b3 hg.2).more (by omega), hC2.and_below b3⟩
      case measure => simp [intOf]
    | zero =>
      have hxl : os.length ≤ 6 := by omega
      obtain ⟨A3, c3, rfl, -⟩ := own_form hO
      have hs := hC.size
      have HO := Lib.hid hO
      have hRx := hR.more (show M + 1 + os.length ≤ M + 40 by omega)
      clear hO hR
      go_wp2_with fail
      refine (odd_any base g (M + 40) n _ hRx (by omega) hn (by omega)).mono ?_
      rintro e w7 ⟨b, rfl, r7, c7⟩
      have HO7 := Lib.hid (own_chg HO.out c7 hg.2)
      have hC7 := hC.trans c7
      have hs7 := hC7.size
      clear c7
      cases b
      · go_wp2
        go_ret
        exact ⟨_, _, rfl, HO7.out, by first | omega | simp, r7.more (by omega), hC7⟩
      · go_wp2_with fail
        refine (pick_any base g _ 2 _ r7 (by omega) (by omega) (by omega)).mono ?_
        rintro e w8 ⟨y, rfl, ⟨hy0, hy3⟩, r8, c8⟩
        have HO8 := Lib.hid (own_chg HO7.out c8 hg.2)
        have hC8 := hC7.trans c8
        have hs8 := hC8.size
        have hg8 := r8.lt
        rcases (show y = 0 ∨ y = 1 by omega) with rfl | rfl
        · have hmk : ∀ W : World, (Instr.makeSlice 23 (.int .i64 7) (.int .i64 7)).run Tryd.prog W = .ok (.slice (some ⟨W.heap.size, 0, none⟩) 7 7) (W.alloc (.cells #[.int .i64 0, .int .i64 0, .int .i64 0, .int .i64 0, .int .i64 0, .int .i64 0, .int .i64 0] 3)) := fun _ => by kernel_rfl
          have hO9 := Blk.new w8 3 #[.int .i64 0, .int .i64 0, .int .i64 0, .int .i64 0, .int .i64 0, .int .i64 0, .int .i64 0]
          have HO9 := Lib.hid hO9
          clear hO9
          go_wp2
          go_ret
          exact ⟨_, List.replicate 7 0, rfl, HO9.out.own hs8 rfl (by decide), by decide, (r8.below (below_al (Below.refl _ _) _)).more (by omega), hC8.and_al _⟩
        · go_wp2_with fail
          rcases (show os = [] ∨ 1 ≤ os.length by cases os <;> simp) with rfl | ho1
          · have hmin : min (1 : Int) 0 = 0 := rfl
            have hA0 : Option.map (fun x : Addr => x.add 0) A3 = A3 := by cases A3 <;> rfl
            go_region_law (first | (go_simp; go_at_call 48; refine (pick_any base g (M + 42) 2 _ (by first | exact r8.below ((Below.refl _ _).drew) | exact r8.below ((below_al (Below.refl _ _) _).drew)) (by omega) (by omega) (by omega)).mono ?_; rintro e w9 ⟨v9, rfl, ⟨hv0, hv2⟩, r9, c9⟩; obtain ⟨y9, hya, hyb, hyc⟩ := pair_get (W := w9) (-1) 31 v9 hv0 hv2; have hy4 := hyc _ _ (Blk.new w9 3 #[.int .i64 (-1), .int .i64 31]); (try (have hy5 := hyc _ _ (blk_chg (w := (w8.alloc (.cells #[.int .i64 (-1), .int .i64 31] 3)).drew) (Blk.new w8 3 #[.int .i64 (-1), .int .i64 31]) c9 (by omega)))); clear hyc; have hC9 : Chg g (g + 1) w w9 := (by first | exact (hC8.and_below ((Below.refl _ _).drew)).trans c9 | exact (hC8.and_below (((Below.refl _ _).alloc hs8 _).drew)).trans c9); have hs9 := hC9.size; have HO9 := Lib.hid (show OI w9 w.heap.size (.slice A3 0 c3) ([]) from (by first | exact own_chg (own_likeD (w' := w8.drew) HO8.out rfl) c9 hg.2 | exact own_chg (own_likeD (w := w8.alloc (.cells #[.int .i64 (-1), .int .i64 31] 3)) (w' := (w8.alloc (.cells #[.int .i64 (-1), .int .i64 31] 3)).drew) (HO8.out.alloc _) rfl) c9 hg.2)); have HR9 := Lib.hid (show RV w9 w9.heap.size A3 (ints (List.drop 1 [])) from (RV.nil _ _ _)); have HB9 := Lib.hid (show w9.heap.size + 1 = w9.heap.size + 1 from rfl); clear c9) | (with_reducible refine app_only ?_; refine step_app (w9.alloc (.cells #[.int .i64 y9] 3)) rfl _ _ _ rfl int_EId w.heap.size (.slice (some ⟨w9.heap.size, 0, none⟩) 1 1) 1 [.int .i64 y9] rfl (newG w9 3 [.int .i64 y9] 1 rfl hs9) A3 0 c3 (ints (List.drop 1 [])) rfl ?_ (HR9.out.below (below_al (Below.refl _ _) _)) (ints_one _) ?_ ?_ ?_ ?_; all_goals (first | (intro v10 w10 hO10 hg10; have b10 : Below w.heap.size w9 w10 := below_app' hs9 (newG w9 3 [.int .i64 y9] 1 rfl hs9) hg10) | ((try simp only [ints_length, maxLen, List.length_drop, List.length_nil, List.length_cons, World.size_alloc]) <;> omega))) | (with_reducible refine app_only ?_; refine step_app ((w9.alloc (.cells #[.int .i64 (-1), .int .i64 31] 3)).alloc (.cells #[.int .i64 y9] 3)) rfl _ _ _ rfl int_EId w.heap.size (.slice (some ⟨w9.heap.size + 1, 0, none⟩) 1 1) 1 [.int .i64 y9] rfl (newG2 w9 (.cells #[.int .i64 (-1), .int .i64 31] 3) 3 [.int .i64 y9] 1 rfl hs9) A3 0 c3 (ints (List.drop 1 [])) rfl ?_ (HR9.out.below (below_al (below_al (Below.refl _ _) _) _)) (ints_one _) ?_ ?_ ?_ ?_; all_goals (first | (intro v10 w10 hO10 hg10; have b10 : Below w.heap.size w9 w10 := new_belowG2 (o := .cells #[.int .i64 (-1), .int .i64 31] 3) (T := 3) (cs := [.int .i64 y9]) (s := 1) hs9 rfl hg10) | ((try simp only [ints_length, maxLen, List.length_drop, List.length_nil, List.length_cons, World.size_alloc]) <;> omega))))
            all_goals (go_wp2; go_ret; exact ⟨_, y9 :: List.drop 1 [], rfl, oi_consD hO10, by simp only [List.length_drop, List.length_cons, List.length_nil] <;> omega, (r9.belowB b10 hg.2).more (by omega), hC9.and_below b10⟩)
          · obtain ⟨b3, rfl, hoc⟩ := oi_someD HO8.out ho1
            have ho1z : (1 : Int) ≤ (os.length : Int) := by omega
            have hmin : min (1 : Int) (os.length : Int) = 1 := by omega
            by_cases hc1 : c3 = 1
            · subst hc1
              obtain ⟨o, rfl⟩ : ∃ o, os = [o] := List.length_eq_one_iff.1 (by omega)
              go_region_law (first | (go_simp; go_at_call 48; refine (pick_any base g (M + 42) 2 _ (by first | exact r8.below ((Below.refl _ _).drew) | exact r8.below ((below_al (Below.refl _ _) _).drew)) (by omega) (by omega) (by omega)).mono ?_; rintro e w9 ⟨v9, rfl, ⟨hv0, hv2⟩, r9, c9⟩; obtain ⟨y9, hya, hyb, hyc⟩ := pair_get (W := w9) (-1) 31 v9 hv0 hv2; have hy4 := hyc _ _ (Blk.new w9 3 #[.int .i64 (-1), .int .i64 31]); (try (have hy5 := hyc _ _ (blk_chg (w := (w8.alloc (.cells #[.int .i64 (-1), .int .i64 31] 3)).drew) (Blk.new w8 3 #[.int .i64 (-1), .int .i64 31]) c9 (by omega)))); clear hyc; have hC9 : Chg g (g + 1) w w9 := (by first | exact (hC8.and_below ((Below.refl _ _).drew)).trans c9 | exact (hC8.and_below (((Below.refl _ _).alloc hs8 _).drew)).trans c9); have hs9 := hC9.size; have HO9 := Lib.hid (show OI w9 w.heap.size (.slice (some ⟨b3, 0, none⟩) 1 1) ([o]) from (by first | exact own_chg (own_likeD (w' := w8.drew) HO8.out rfl) c9 hg.2 | exact own_chg (own_likeD (w := w8.alloc (.cells #[.int .i64 (-1), .int .i64 31] 3)) (w' := (w8.alloc (.cells #[.int .i64 (-1), .int .i64 31] 3)).drew) (HO8.out.alloc _) rfl) c9 hg.2)); have HR9 := Lib.hid (show RV w9 w9.heap.size (some ⟨b3, 0, none⟩) (ints (List.drop 1 [o])) from (RV.nil _ _ _)); have HB9 := Lib.hid (show w9.heap.size + 1 = w9.heap.size + 1 from rfl); clear c9) | (with_reducible refine app_only ?_; refine step_app (w9.alloc (.cells #[.int .i64 y9] 3)) rfl _ _ _ rfl int_EId w.heap.size (.slice (some ⟨w9.heap.size, 0, none⟩) 1 1) 1 [.int .i64 y9] rfl (newG w9 3 [.int .i64 y9] 1 rfl hs9) (some ⟨b3, 0, none⟩) 0 0 (ints (List.drop 1 [o])) rfl ?_ (HR9.out.below (below_al (Below.refl _ _) _)) (ints_one _) ?_ ?_ ?_ ?_; all_goals (first | (intro v10 w10 hO10 hg10; have b10 : Below w.heap.size w9 w10 := below_app' hs9 (newG w9 3 [.int .i64 y9] 1 rfl hs9) hg10) | ((try simp only [ints_length, maxLen, List.length_drop, List.length_nil, List.length_cons, World.size_alloc]) <;> omega))) | (with_reducible refine app_only ?_; refine step_app ((w9.alloc (.cells #[.int .i64 (-1), .int .i64 31] 3)).alloc (.cells #[.int .i64 y9] 3)) rfl _ _ _ rfl int_EId w.heap.size (.slice (some ⟨w9.heap.size + 1, 0, none⟩) 1 1) 1 [.int .i64 y9] rfl (newG2 w9 (.cells #[.int .i64 (-1), .int .i64 31] 3) 3 [.int .i64 y9] 1 rfl hs9) (some ⟨b3, 0, none⟩) 0 0 (ints (List.drop 1 [o])) rfl ?_ (HR9.out.below (below_al (below_al (Below.refl _ _) _) _)) (ints_one _) ?_ ?_ ?_ ?_; all_goals (first | (intro v10 w10 hO10 hg10; have b10 : Below w.heap.size w9 w10 := new_belowG2 (o := .cells #[.int .i64 (-1), .int .i64 31] 3) (T := 3) (cs := [.int .i64 y9]) (s := 1) hs9 rfl hg10) | ((try simp only [ints_length, maxLen, List.length_drop, List.length_nil, List.length_cons, World.size_alloc]) <;> omega))))
              all_goals (go_wp2; go_ret; exact ⟨_, y9 :: List.drop 1 [o], rfl, oi_consD hO10, by simp only [List.length_drop, List.length_cons, List.length_nil] <;> omega, (r9.belowB b10 hg.2).more (by omega), hC9.and_below b10⟩)
            · skip
              go_region_law (first | (go_simp; go_at_call 48; refine (pick_any base g (M + 42) 2 _ (by first | exact r8.below ((Below.refl _ _).drew) | exact r8.below ((below_al (Below.refl _ _) _).drew)) (by omega) (by omega) (by omega)).mono ?_; rintro e w9 ⟨v9, rfl, ⟨hv0, hv2⟩, r9, c9⟩; obtain ⟨y9, hya, hyb, hyc⟩ := pair_get (W := w9) (-1) 31 v9 hv0 hv2; have hy4 := hyc _ _ (Blk.new w9 3 #[.int .i64 (-1), .int .i64 31]); (try (have hy5 := hyc _ _ (blk_chg (w := (w8.alloc (.cells #[.int .i64 (-1), .int .i64 31] 3)).drew) (Blk.new w8 3 #[.int .i64 (-1), .int .i64 31]) c9 (by omega)))); clear hyc; have hC9 : Chg g (g + 1) w w9 := (by first | exact (hC8.and_below ((Below.refl _ _).drew)).trans c9 | exact (hC8.and_below (((Below.refl _ _).alloc hs8 _).drew)).trans c9); have hs9 := hC9.size; have HO9 := Lib.hid (show OI w9 w.heap.size (.slice (some ⟨b3, 0, none⟩) os.length c3) (os) from (by first | exact own_chg (own_likeD (w' := w8.drew) HO8.out rfl) c9 hg.2 | exact own_chg (own_likeD (w := w8.alloc (.cells #[.int .i64 (-1), .int .i64 31] 3)) (w' := (w8.alloc (.cells #[.int .i64 (-1), .int .i64 31] 3)).drew) (HO8.out.alloc _) rfl) c9 hg.2)); have HR9 := Lib.hid (show RV w9 w9.heap.size (some ⟨b3, 1, none⟩) (ints (List.drop 1 os)) from (oi_tailD HO9.out ho1)); have HB9 := Lib.hid (show w9.heap.size + 1 = w9.heap.size + 1 from rfl); clear c9) | (with_reducible refine app_only ?_; refine step_app (w9.alloc (.cells #[.int .i64 y9] 3)) rfl _ _ _ rfl int_EId w.heap.size (.slice (some ⟨w9.heap.size, 0, none⟩) 1 1) 1 [.int .i64 y9] rfl (newG w9 3 [.int .i64 y9] 1 rfl hs9) (some ⟨b3, 1, none⟩) (os.length - 1) (c3 - 1) (ints (List.drop 1 os)) rfl ?_ (HR9.out.below (below_al (Below.refl _ _) _)) (ints_one _) ?_ ?_ ?_ ?_; all_goals (first | (intro v10 w10 hO10 hg10; have b10 : Below w.heap.size w9 w10 := below_app' hs9 (newG w9 3 [.int .i64 y9] 1 rfl hs9) hg10) | ((try simp only [ints_length, maxLen, List.length_drop, List.length_nil, List.length_cons, World.size_alloc]) <;> omega))) | (with_reducible refine app_only ?_; refine step_app ((w9.alloc (.cells #[.int .i64 (-1), .int .i64 31] 3)).alloc (.cells #[.int .i64 y9] 3)) rfl _ _ _ rfl int_EId w.heap.size (.slice (some ⟨w9.heap.size + 1, 0, none⟩) 1 1) 1 [.int .i64 y9] rfl (newG2 w9 (.cells #[.int .i64 (-1), .int .i64 31] 3) 3 [.int .i64 y9] 1 rfl hs9) (some ⟨b3, 1, none⟩) (os.length - 1) (c3 - 1) (ints (List.drop 1 os)) rfl ?_ (HR9.out.below (below_al (below_al (Below.refl _ _) _) _)) (ints_one _) ?_ ?_ ?_ ?_; all_goals (first | (intro v10 w10 hO10 hg10; have b10 : Below w.heap.size w9 w10 := new_belowG2 (o := .cells #[.int .i64 (-1), .int .i64 31] 3) (T := 3) (cs := [.int .i64 y9]) (s := 1) hs9 rfl hg10) | ((try simp only [ints_length, maxLen, List.length_drop, List.length_nil, List.length_cons, World.size_alloc]) <;> omega))))
              all_goals (go_wp2; go_ret; exact ⟨_, y9 :: List.drop 1 os, rfl, oi_consD hO10, by simp only [List.length_drop, List.length_cons, List.length_nil] <;> omega, (r9.belowB b10 hg.2).more (by omega), hC9.and_below b10⟩)
end Go.Proofs.YtnehedcelfpegaaDoor
