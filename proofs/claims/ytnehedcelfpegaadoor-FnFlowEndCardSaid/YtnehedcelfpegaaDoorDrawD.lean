/- Dishes are drawn. -/
import Derived.Test.YtnehedcelfpegaaDoorDraw2
import Derived.Test.YtnehedcelfpegaaDoorDishes
import Derived.Lib.MinMax
set_option linter.unusedVariables false
set_option linter.unusedSimpArgs false
namespace Go.Proofs.YtnehedcelfpegaaDoor
open Go.ChangeShapes Go.WideShapes Go.ChangeAt Go.RowKit

theorem dish_EId : EI Tryd.prog 28 32 2 16 := EI.mk Tryd.underlying28 dish_info rfl (by omega)
theorem od_someD {W : World} {base c : Nat} {A : Option Addr} {os : List Dsh} (h : OD W base (.slice A os.length c) os) (h1 : 1 ≤ os.length) : ∃ b, A = some ⟨b, 0, none⟩ ∧ os.length ≤ c := by
  obtain ⟨A', c', e, hr, hc, -, ha⟩ := own_form h
  injection e with e1 e2 e3
  subst e1 e3
  obtain ⟨b, off, rfl, -, -⟩ := hr (by rw [dishes_length]; omega)
  obtain ⟨-, h2, -⟩ := ha _ rfl
  subst h2
  exact ⟨b, rfl, hc⟩
theorem od_tailD {W : World} {base c b : Nat} {os : List Dsh} (h : OD W base (.slice (some ⟨b, 0, none⟩) os.length c) os) (h1 : 1 ≤ os.length) : RV W W.heap.size (some ⟨b, 2, none⟩) (dishes (os.drop 1)) := by
  cases os with
  | nil => simp at h1
  | cons o t =>
    intro hp
    refine ⟨b, 2, rfl, (h.lt b rfl).2, fun j hj => ?_⟩
    have hj' : j < t.length * 2 := by simpa [dishes_length] using hj
    rw [World.ownsRow.cellAt h (2 + j) (by simp; omega)]
    rw [show 2 + j = j + 2 by omega]
    have e : dishes (o :: t) = .int .i64 o.1 :: .int .i64 o.2 :: dishes t := by simp [dishes, flat, encD]
    rw [e]; simp
theorem od_consD {W : World} {base n : Nat} {v : Value} {x y : Int} {os : List Dsh} (h : W.ownsRow base 32 2 v n ([.int .i64 x, .int .i64 y] ++ dishes os)) (hn : n = 1 + os.length := by first | rfl | (simp only [List.length_drop, List.length_cons, List.length_nil] <;> omega)) : OD W base v ((x, y) :: os) := by
  subst hn
  have e : dishes ((x, y) :: os) = [.int .i64 x, .int .i64 y] ++ dishes os := by simp [dishes, flat, encD]
  unfold OD
  rw [e, List.length_cons, Nat.add_comm]; exact h
theorem od_pushD {w : World} {base : Nat} {v : Value} {os : List Dsh} {x y : Int} (h : w.ownsRow base 32 2 v (os.length + 1) (dishes os ++ [.int .i64 x, .int .i64 y])) : OD w base v (os ++ [(x, y)]) := by
  have e : dishes (os ++ [(x, y)]) = dishes os ++ [.int .i64 x, .int .i64 y] := by simp [dishes, flat, encD]
  unfold OD
  rw [e, List.length_append]; exact h
/-- Dishes were drawn. -/
def DrawDP (w : World) (base g M : Nat) (e : Ending) (w' : World) : Prop := ∃ (v : Value) (os : List Dsh), e = .returned v ∧ OD w' w.heap.size v os ∧ os.length ≤ 100 ∧ Rd w' base g (M + 100) ∧ Chg g (g + 1) w w'
set_option maxHeartbeats 8000000 in
theorem l20Dishes_any (base g M : Nat) (n : Int) (w : World) (h : Rd w base g M) (hM : M ≤ 900000) (hn : 0 ≤ n) (hn2 : n ≤ 1000) :
    Calls Tryd.prog 47 #[.pointer (some ⟨g, 0, none⟩), .int .i64 n] w (DrawDP w base g M) := by
  have hg := h.lt
  go_enter Tryd.func47, Tryd.ntmps47
  go_wp2_with fail
  refine (pick_any base g M 7 _ (h.below (below_al (Below.refl _ _) _)) (by omega) (by omega) (by omega)).mono ?_
  rintro e w1 ⟨k0, rfl, ⟨hk0, hk7⟩, r1, c1⟩
  have C1 : Chg g (g + 1) w w1 := (Chg.refl g (g + 1) w).and_al _ |>.trans c1
  have O1 : w1.ownsRow w.heap.size 32 2 (.slice (some ⟨w.heap.size, 0, none⟩) 0 0) 0 [] := own_chg (own_empty w _ 2 _ (Nat.le_refl _)) c1 hg.2
  clear c1 h
  go_wp2
  go_loopw [5, 6] (fun v i wr => ∃ (k : Nat) (v0 : Value) (os : List Dsh), k ≤ 6 ∧ v0 = v ∧ i = .int .i64 (k : Int) ∧ os.length + k ≤ 6 ∧ OD wr w.heap.size v0 os ∧ Rd wr base g (M + 1 + 2 * os.length) ∧ Chg g (g + 1) w wr) (fun _ i _ => (intOf i).toNat)
  case atStart => exact ⟨k0.toNat, _, [], by omega, rfl, by congr 1; omega, by simp; omega, O1, r1, C1⟩
  case round =>
    clear O1 r1 C1
    obtain ⟨k, v, os, hk, rfl, rfl, hxk, hO, hR, hC⟩ := hrel
    cases k with
    | succ k =>
      have hs := hC.size
      go_wp2_with fail
      refine (pick_any base g _ 12 _ hR (by omega) (by omega) (by omega)).mono ?_
      rintro e w2 ⟨y1, rfl, ⟨hy0, hy3⟩, r2, c2⟩
      have hO2 := own_chg hO c2 hg.2
      have hC2 := hC.trans c2
      clear hO hR c2
      go_wp2_with fail
      refine (pick_any base g _ 12 _ r2 (by omega) (by omega) (by omega)).mono ?_
      rintro e w4 ⟨y2, rfl, ⟨hz0, hz3⟩, r4, c4⟩
      have hO4 : w4.ownsRow w.heap.size 32 2 v os.length (dishes os) := own_chg hO2 c4 hg.2
      have hC4 := hC2.trans c4
      clear hO2 hC2 r2 c4
      go_wp2_with (at_builtin; refine wpList_app _ rfl _ _ 28 rfl dish_EId w.heap.size v os.length _ rfl (hO4.alloc _) (some ⟨_, 0, none⟩) 1 1 [.int .i64 y1, .int .i64 y2] rfl rfl (rv_new _ _ _) (one2 _ _) (le_max (by omega)) (by omega) (hC4.and_al _).size ?_; intro v3 w3 hO3 hg3 _)
      have b3 : Below w.heap.size w4 w3 := below_app' hC4.size (hO4.alloc _) hg3
      go_roundw
      case rel =>
        have e : (os ++ [(y1, y2)]).length = os.length + 1 := by simp
        exact ⟨k, _, os ++ [(y1, y2)], by omega, rfl, by go_num, by omega, od_pushD hO3, (r4.belowB b3 hg.2).more (by omega), hC4.and_below b3⟩
      case measure => simp [intOf]
    | zero =>
      have hxl : os.length ≤ 6 := by omega
      obtain ⟨A3, c3, rfl, -⟩ := own_form hO
      have hs := hC.size
      have HO := Lib.hid hO
      have hRx := hR.more (show M + 1 + 2 * os.length ≤ M + 40 by omega)
      clear hO hR
      go_wp2_with fail
      refine (odd_any base g (M + 40) n _ hRx (by omega) hn (by omega)).mono ?_
      rintro e w7 ⟨b, rfl, r7, c7⟩
      have HO7 := Lib.hid (own_chg HO.out c7 hg.2)
      have hC7 := hC.trans c7
      have hs7 := hC7.size
      clear c7
      cases b
      · go_wp2
        go_ret
        exact ⟨_, _, rfl, HO7.out, by first | omega | simp, r7.more (by omega), hC7⟩
      · go_wp2_with fail
        refine (pick_any base g _ 3 _ r7 (by omega) (by omega) (by omega)).mono ?_
        rintro e w8 ⟨y, rfl, ⟨hy0, hy3⟩, r8, c8⟩
        have HO8 := Lib.hid (own_chg HO7.out c8 hg.2)
        have hC8 := hC7.trans c8
        have hs8 := hC8.size
        have hg8 := r8.lt
        rcases (show y = 0 ∨ y = 1 ∨ y = 2 by omega) with rfl | rfl | rfl
        · have hmk : ∀ W : World, (Instr.makeSlice 28 (.int .i64 7) (.int .i64 7)).run Tryd.prog W = .ok (.slice (some ⟨W.heap.size, 0, none⟩) 7 7) (W.alloc (.cells #[.int .i64 0, .int .i64 0, .int .i64 0, .int .i64 0, .int .i64 0, .int .i64 0, .int .i64 0, .int .i64 0, .int .i64 0, .int .i64 0, .int .i64 0, .int .i64 0, .int .i64 0, .int .i64 0] 32)) := fun _ => by kernel_rfl
          have hO9 := Blk.new w8 32 #[.int .i64 0, .int .i64 0, .int .i64 0, .int .i64 0, .int .i64 0, .int .i64 0, .int .i64 0, .int .i64 0, .int .i64 0, .int .i64 0, .int .i64 0, .int .i64 0, .int .i64 0, .int .i64 0]
          have HO9 := Lib.hid hO9
          clear hO9
          go_wp2
          go_ret
          exact ⟨_, List.replicate 7 (0, 0), rfl, HO9.out.own hs8 rfl (by decide), by decide, (r8.below (below_al (Below.refl _ _) _)).more (by omega), hC8.and_al _⟩
        · go_wp2_with fail
          rcases (show os = [] ∨ 1 ≤ os.length by cases os <;> simp) with rfl | ho1
          · have hmin : min (1 : Int) 0 = 0 := rfl
            have hA0 : Option.map (fun x : Addr => x.add 0) A3 = A3 := by cases A3 <;> rfl
            go_region_law (first | (go_simp; go_at_call 48; refine (pick_any base g (M + 42) 2 _ (by first | exact r8.below ((Below.refl _ _).drew) | exact r8.below ((below_al (Below.refl _ _) _).drew)) (by omega) (by omega) (by omega)).mono ?_; rintro e w9 ⟨v9, rfl, ⟨hv0, hv2⟩, r9, c9⟩; obtain ⟨y9, hya, hyb, hyc⟩ := pair_get (W := w9) (-1) 31 v9 hv0 hv2; have hy4 := hyc _ _ (Blk.new w9 3 #[.int .i64 (-1), .int .i64 31]); (try (have hy5 := hyc _ _ (blk_chg (w := (w8.alloc (.cells #[.int .i64 (-1), .int .i64 31] 3)).drew) (Blk.new w8 3 #[.int .i64 (-1), .int .i64 31]) c9 (by omega)))); clear hyc; have hC9 : Chg g (g + 1) w w9 := (by first | exact (hC8.and_below ((Below.refl _ _).drew)).trans c9 | exact (hC8.and_below (((Below.refl _ _).alloc hs8 _).drew)).trans c9); have hs9 := hC9.size; have HO9 := Lib.hid (show OD w9 w.heap.size (.slice A3 0 c3) ([]) from (by first | exact own_chg (own_likeD (w' := w8.drew) HO8.out rfl) c9 hg.2 | exact own_chg (own_likeD (w := w8.alloc (.cells #[.int .i64 (-1), .int .i64 31] 3)) (w' := (w8.alloc (.cells #[.int .i64 (-1), .int .i64 31] 3)).drew) (HO8.out.alloc _) rfl) c9 hg.2)); have HR9 := Lib.hid (show RV w9 w9.heap.size A3 (dishes (List.drop 1 [])) from (RV.nil _ _ _)); have HB9 := Lib.hid (show w9.heap.size + 1 = w9.heap.size + 1 from rfl); clear c9) | (with_reducible refine app_only ?_; refine step_app (w9.alloc (.cells #[.int .i64 y9, .int .i64 0] 32)) rfl _ _ _ rfl dish_EId w.heap.size (.slice (some ⟨w9.heap.size, 0, none⟩) 1 1) 1 [.int .i64 y9, .int .i64 0] rfl (newG w9 32 [.int .i64 y9, .int .i64 0] 2 rfl hs9) A3 0 c3 (dishes (List.drop 1 [])) rfl ?_ (HR9.out.below (below_al (Below.refl _ _) _)) (dishes_one _) ?_ ?_ ?_ ?_; all_goals (first | (intro v10 w10 hO10 hg10; have b10 : Below w.heap.size w9 w10 := below_app' hs9 (newG w9 32 [.int .i64 y9, .int .i64 0] 2 rfl hs9) hg10) | ((try simp only [dishes_length, maxLen, List.length_drop, List.length_nil, List.length_cons, World.size_alloc]) <;> omega))) | (with_reducible refine app_only ?_; refine step_app ((w9.alloc (.cells #[.int .i64 (-1), .int .i64 31] 3)).alloc (.cells #[.int .i64 y9, .int .i64 0] 32)) rfl _ _ _ rfl dish_EId w.heap.size (.slice (some ⟨w9.heap.size + 1, 0, none⟩) 1 1) 1 [.int .i64 y9, .int .i64 0] rfl (newG2 w9 (.cells #[.int .i64 (-1), .int .i64 31] 3) 32 [.int .i64 y9, .int .i64 0] 2 rfl hs9) A3 0 c3 (dishes (List.drop 1 [])) rfl ?_ (HR9.out.below (below_al (below_al (Below.refl _ _) _) _)) (dishes_one _) ?_ ?_ ?_ ?_; all_goals (first | (intro v10 w10 hO10 hg10; have b10 : Below w.heap.size w9 w10 := new_belowG2 (o := .cells #[.int .i64 (-1), .int .i64 31] 3) (T := 32) (cs := [.int .i64 y9, .int .i64 0]) (s := 2) hs9 rfl hg10) | ((try simp only [dishes_length, maxLen, List.length_drop, List.length_nil, List.length_cons, World.size_alloc]) <;> omega))))
            all_goals (go_wp2; go_ret; exact ⟨_, (y9, 0) :: List.drop 1 [], rfl, od_consD hO10, by simp only [List.length_drop, List.length_cons, List.length_nil] <;> omega, (r9.belowB b10 hg.2).more (by omega), hC9.and_below b10⟩)
          · obtain ⟨b3, rfl, hoc⟩ := od_someD HO8.out ho1
            have ho1z : (1 : Int) ≤ (os.length : Int) := by omega
            have hmin : min (1 : Int) (os.length : Int) = 1 := by omega
            by_cases hc1 : c3 = 1
            · subst hc1
              obtain ⟨o, rfl⟩ : ∃ o, os = [o] := List.length_eq_one_iff.1 (by omega)
              go_region_law (first | (go_simp; go_at_call 48; refine (pick_any base g (M + 42) 2 _ (by first | exact r8.below ((Below.refl _ _).drew) | exact r8.below ((below_al (Below.refl _ _) _).drew)) (by omega) (by omega) (by omega)).mono ?_; rintro e w9 ⟨v9, rfl, ⟨hv0, hv2⟩, r9, c9⟩; obtain ⟨y9, hya, hyb, hyc⟩ := pair_get (W := w9) (-1) 31 v9 hv0 hv2; have hy4 := hyc _ _ (Blk.new w9 3 #[.int .i64 (-1), .int .i64 31]); (try (have hy5 := hyc _ _ (blk_chg (w := (w8.alloc (.cells #[.int .i64 (-1), .int .i64 31] 3)).drew) (Blk.new w8 3 #[.int .i64 (-1), .int .i64 31]) c9 (by omega)))); clear hyc; have hC9 : Chg g (g + 1) w w9 := (by first | exact (hC8.and_below ((Below.refl _ _).drew)).trans c9 | exact (hC8.and_below (((Below.refl _ _).alloc hs8 _).drew)).trans c9); have hs9 := hC9.size; have HO9 := Lib.hid (show OD w9 w.heap.size (.slice (some ⟨b3, 0, none⟩) 1 1) ([o]) from (by first | exact own_chg (own_likeD (w' := w8.drew) HO8.out rfl) c9 hg.2 | exact own_chg (own_likeD (w := w8.alloc (.cells #[.int .i64 (-1), .int .i64 31] 3)) (w' := (w8.alloc (.cells #[.int .i64 (-1), .int .i64 31] 3)).drew) (HO8.out.alloc _) rfl) c9 hg.2)); have HR9 := Lib.hid (show RV w9 w9.heap.size (some ⟨b3, 0, none⟩) (dishes (List.drop 1 [o])) from (RV.nil _ _ _)); have HB9 := Lib.hid (show w9.heap.size + 1 = w9.heap.size + 1 from rfl); clear c9) | (with_reducible refine app_only ?_; refine step_app (w9.alloc (.cells #[.int .i64 y9, .int .i64 0] 32)) rfl _ _ _ rfl dish_EId w.heap.size (.slice (some ⟨w9.heap.size, 0, none⟩) 1 1) 1 [.int .i64 y9, .int .i64 0] rfl (newG w9 32 [.int .i64 y9, .int .i64 0] 2 rfl hs9) (some ⟨b3, 0, none⟩) 0 0 (dishes (List.drop 1 [o])) rfl ?_ (HR9.out.below (below_al (Below.refl _ _) _)) (dishes_one _) ?_ ?_ ?_ ?_; all_goals (first | (intro v10 w10 hO10 hg10; have b10 : Below w.heap.size w9 w10 := below_app' hs9 (newG w9 32 [.int .i64 y9, .int .i64 0] 2 rfl hs9) hg10) | ((try simp only [dishes_length, maxLen, List.length_drop, List.length_nil, List.length_cons, World.size_alloc]) <;> omega))) | (with_reducible refine app_only ?_; refine step_app ((w9.alloc (.cells #[.int .i64 (-1), .int .i64 31] 3)).alloc (.cells #[.int .i64 y9, .int .i64 0] 32)) rfl _ _ _ rfl dish_EId w.heap.size (.slice (some ⟨w9.heap.size + 1, 0, none⟩) 1 1) 1 [.int .i64 y9, .int .i64 0] rfl (newG2 w9 (.cells #[.int .i64 (-1), .int .i64 31] 3) 32 [.int .i64 y9, .int .i64 0] 2 rfl hs9) (some ⟨b3, 0, none⟩) 0 0 (dishes (List.drop 1 [o])) rfl ?_ (HR9.out.below (below_al (below_al (Below.refl _ _) _) _)) (dishes_one _) ?_ ?_ ?_ ?_; all_goals (first | (intro v10 w10 hO10 hg10; have b10 : Below w.heap.size w9 w10 := new_belowG2 (o := .cells #[.int .i64 (-1), .int .i64 31] 3) (T := 32) (cs := [.int .i64 y9, .int .i64 0]) (s := 2) hs9 rfl hg10) | ((try simp only [dishes_length, maxLen, List.length_drop, List.length_nil, List.length_cons, World.size_alloc]) <;> omega))))
              all_goals (go_wp2; go_ret; exact ⟨_, (y9, 0) :: List.drop 1 [o], rfl, od_consD hO10, by simp only [List.length_drop, List.length_cons, List.length_nil] <;> omega, (r9.belowB b10 hg.2).more (by omega), hC9.and_below b10⟩)
            · skip
              go_region_law (first | (go_simp; go_at_call 48; refine (pick_any base g (M + 42) 2 _ (by first | exact r8.below ((Below.refl _ _).drew) | exact r8.below ((below_al (Below.refl _ _) _).drew)) (by omega) (by omega) (by omega)).mono ?_; rintro e w9 ⟨v9, rfl, ⟨hv0, hv2⟩, r9, c9⟩; obtain ⟨y9, hya, hyb, hyc⟩ := pair_get (W := w9) (-1) 31 v9 hv0 hv2; have hy4 := hyc _ _ (Blk.new w9 3 #[.int .i64 (-1), .int .i64 31]); (try (have hy5 := hyc _ _ (blk_chg (w := (w8.alloc (.cells #[.int .i64 (-1), .int .i64 31] 3)).drew) (Blk.new w8 3 #[.int .i64 (-1), .int .i64 31]) c9 (by omega)))); clear hyc; have hC9 : Chg g (g + 1) w w9 := (by first | exact (hC8.and_below ((Below.refl _ _).drew)).trans c9 | exact (hC8.and_below (((Below.refl _ _).alloc hs8 _).drew)).trans c9); have hs9 := hC9.size; have HO9 := Lib.hid (show OD w9 w.heap.size (.slice (some ⟨b3, 0, none⟩) os.length c3) (os) from (by first | exact own_chg (own_likeD (w' := w8.drew) HO8.out rfl) c9 hg.2 | exact own_chg (own_likeD (w := w8.alloc (.cells #[.int .i64 (-1), .int .i64 31] 3)) (w' := (w8.alloc (.cells #[.int .i64 (-1), .int .i64 31] 3)).drew) (HO8.out.alloc _) rfl) c9 hg.2)); have HR9 := Lib.hid (show RV w9 w9.heap.size (some ⟨b3, 2, none⟩) (dishes (List.drop 1 os)) from (od_tailD HO9.out ho1)); have HB9 := Lib.hid (show w9.heap.size + 1 = w9.heap.size + 1 from rfl); clear c9) | (with_reducible refine app_only ?_; refine step_app (w9.alloc (.cells #[.int .i64 y9, .int .i64 0] 32)) rfl _ _ _ rfl dish_EId w.heap.size (.slice (some ⟨w9.heap.size, 0, none⟩) 1 1) 1 [.int .i64 y9, .int .i64 0] rfl (newG w9 32 [.int .i64 y9, .int .i64 0] 2 rfl hs9) (some ⟨b3, 2, none⟩) (os.length - 1) (c3 - 1) (dishes (List.drop 1 os)) rfl ?_ (HR9.out.below (below_al (Below.refl _ _) _)) (dishes_one _) ?_ ?_ ?_ ?_; all_goals (first | (intro v10 w10 hO10 hg10; have b10 : Below w.heap.size w9 w10 := below_app' hs9 (newG w9 32 [.int .i64 y9, .int .i64 0] 2 rfl hs9) hg10) | ((try simp only [dishes_length, maxLen, List.length_drop, List.length_nil, List.length_cons, World.size_alloc]) <;> omega))) | (with_reducible refine app_only ?_; refine step_app ((w9.alloc (.cells #[.int .i64 (-1), .int .i64 31] 3)).alloc (.cells #[.int .i64 y9, .int .i64 0] 32)) rfl _ _ _ rfl dish_EId w.heap.size (.slice (some ⟨w9.heap.size + 1, 0, none⟩) 1 1) 1 [.int .i64 y9, .int .i64 0] rfl (newG2 w9 (.cells #[.int .i64 (-1), .int .i64 31] 3) 32 [.int .i64 y9, .int .i64 0] 2 rfl hs9) (some ⟨b3, 2, none⟩) (os.length - 1) (c3 - 1) (dishes (List.drop 1 os)) rfl ?_ (HR9.out.below (below_al (below_al (Below.refl _ _) _) _)) (dishes_one _) ?_ ?_ ?_ ?_; all_goals (first | (intro v10 w10 hO10 hg10; have b10 : Below w.heap.size w9 w10 := new_belowG2 (o := .cells #[.int .i64 (-1), .int .i64 31] 3) (T := 32) (cs := [.int .i64 y9, .int .i64 0]) (s := 2) hs9 rfl hg10) | ((try simp only [dishes_length, maxLen, List.length_drop, List.length_nil, List.length_cons, World.size_alloc]) <;> omega))))
              all_goals (go_wp2; go_ret; exact ⟨_, (y9, 0) :: List.drop 1 os, rfl, od_consD hO10, by simp only [List.length_drop, List.length_cons, List.length_nil] <;> omega, (r9.belowB b10 hg.2).more (by omega), hC9.and_below b10⟩)
        · go_wp2_with fail
          rcases (show os = [] ∨ 1 ≤ os.length by cases os <;> simp) with rfl | ho1
          · have hmin : min (1 : Int) 0 = 0 := rfl
            have hA0 : Option.map (fun x : Addr => x.add 0) A3 = A3 := by cases A3 <;> rfl
            go_region_law (first | (go_simp; go_at_call 48; refine (pick_any base g (M + 42) 2 _ (by first | exact r8.below ((Below.refl _ _).drew) | exact r8.below ((below_al (Below.refl _ _) _).drew)) (by omega) (by omega) (by omega)).mono ?_; rintro e w9 ⟨v9, rfl, ⟨hv0, hv2⟩, r9, c9⟩; obtain ⟨y9, hya, hyb, hyc⟩ := pair_get (W := w9) (-1) 31 v9 hv0 hv2; have hy4 := hyc _ _ (Blk.new w9 3 #[.int .i64 (-1), .int .i64 31]); (try (have hy5 := hyc _ _ (blk_chg (w := (w8.alloc (.cells #[.int .i64 (-1), .int .i64 31] 3)).drew) (Blk.new w8 3 #[.int .i64 (-1), .int .i64 31]) c9 (by omega)))); clear hyc; have hC9 : Chg g (g + 1) w w9 := (by first | exact (hC8.and_below ((Below.refl _ _).drew)).trans c9 | exact (hC8.and_below (((Below.refl _ _).alloc hs8 _).drew)).trans c9); have hs9 := hC9.size; have HO9 := Lib.hid (show OD w9 w.heap.size (.slice A3 0 c3) ([]) from (by first | exact own_chg (own_likeD (w' := w8.drew) HO8.out rfl) c9 hg.2 | exact own_chg (own_likeD (w := w8.alloc (.cells #[.int .i64 (-1), .int .i64 31] 3)) (w' := (w8.alloc (.cells #[.int .i64 (-1), .int .i64 31] 3)).drew) (HO8.out.alloc _) rfl) c9 hg.2)); have HR9 := Lib.hid (show RV w9 w9.heap.size A3 (dishes (List.drop 1 [])) from (RV.nil _ _ _)); have HB9 := Lib.hid (show w9.heap.size + 1 = w9.heap.size + 1 from rfl); clear c9) | (with_reducible refine app_only ?_; refine step_app (w9.alloc (.cells #[.int .i64 0, .int .i64 y9] 32)) rfl _ _ _ rfl dish_EId w.heap.size (.slice (some ⟨w9.heap.size, 0, none⟩) 1 1) 1 [.int .i64 0, .int .i64 y9] rfl (newG w9 32 [.int .i64 0, .int .i64 y9] 2 rfl hs9) A3 0 c3 (dishes (List.drop 1 [])) rfl ?_ (HR9.out.below (below_al (Below.refl _ _) _)) (dishes_one _) ?_ ?_ ?_ ?_; all_goals (first | (intro v10 w10 hO10 hg10; have b10 : Below w.heap.size w9 w10 := below_app' hs9 (newG w9 32 [.int .i64 0, .int .i64 y9] 2 rfl hs9) hg10) | ((try simp only [dishes_length, maxLen, List.length_drop, List.length_nil, List.length_cons, World.size_alloc]) <;> omega))) | (with_reducible refine app_only ?_; refine step_app ((w9.alloc (.cells #[.int .i64 (-1), .int .i64 31] 3)).alloc (.cells #[.int .i64 0, .int .i64 y9] 32)) rfl _ _ _ rfl dish_EId w.heap.size (.slice (some ⟨w9.heap.size + 1, 0, none⟩) 1 1) 1 [.int .i64 0, .int .i64 y9] rfl (newG2 w9 (.cells #[.int .i64 (-1), .int .i64 31] 3) 32 [.int .i64 0, .int .i64 y9] 2 rfl hs9) A3 0 c3 (dishes (List.drop 1 [])) rfl ?_ (HR9.out.below (below_al (below_al (Below.refl _ _) _) _)) (dishes_one _) ?_ ?_ ?_ ?_; all_goals (first | (intro v10 w10 hO10 hg10; have b10 : Below w.heap.size w9 w10 := new_belowG2 (o := .cells #[.int .i64 (-1), .int .i64 31] 3) (T := 32) (cs := [.int .i64 0, .int .i64 y9]) (s := 2) hs9 rfl hg10) | ((try simp only [dishes_length, maxLen, List.length_drop, List.length_nil, List.length_cons, World.size_alloc]) <;> omega))))
            all_goals (go_wp2; go_ret; exact ⟨_, (0, y9) :: List.drop 1 [], rfl, od_consD hO10, by simp only [List.length_drop, List.length_cons, List.length_nil] <;> omega, (r9.belowB b10 hg.2).more (by omega), hC9.and_below b10⟩)
          · obtain ⟨b3, rfl, hoc⟩ := od_someD HO8.out ho1
            have ho1z : (1 : Int) ≤ (os.length : Int) := by omega
            have hmin : min (1 : Int) (os.length : Int) = 1 := by omega
            by_cases hc1 : c3 = 1
            · subst hc1
              obtain ⟨o, rfl⟩ : ∃ o, os = [o] := List.length_eq_one_iff.1 (by omega)
              go_region_law (first | (go_simp; go_at_call 48; refine (pick_any base g (M + 42) 2 _ (by first | exact r8.below ((Below.refl _ _).drew) | exact r8.below ((below_al (Below.refl _ _) _).drew)) (by omega) (by omega) (by omega)).mono ?_; rintro e w9 ⟨v9, rfl, ⟨hv0, hv2⟩, r9, c9⟩; obtain ⟨y9, hya, hyb, hyc⟩ := pair_get (W := w9) (-1) 31 v9 hv0 hv2; have hy4 := hyc _ _ (Blk.new w9 3 #[.int .i64 (-1), .int .i64 31]); (try (have hy5 := hyc _ _ (blk_chg (w := (w8.alloc (.cells #[.int .i64 (-1), .int .i64 31] 3)).drew) (Blk.new w8 3 #[.int .i64 (-1), .int .i64 31]) c9 (by omega)))); clear hyc; have hC9 : Chg g (g + 1) w w9 := (by first | exact (hC8.and_below ((Below.refl _ _).drew)).trans c9 | exact (hC8.and_below (((Below.refl _ _).alloc hs8 _).drew)).trans c9); have hs9 := hC9.size; have HO9 := Lib.hid (show OD w9 w.heap.size (.slice (some ⟨b3, 0, none⟩) 1 1) ([o]) from (by first | exact own_chg (own_likeD (w' := w8.drew) HO8.out rfl) c9 hg.2 | exact own_chg (own_likeD (w := w8.alloc (.cells #[.int .i64 (-1), .int .i64 31] 3)) (w' := (w8.alloc (.cells #[.int .i64 (-1), .int .i64 31] 3)).drew) (HO8.out.alloc _) rfl) c9 hg.2)); have HR9 := Lib.hid (show RV w9 w9.heap.size (some ⟨b3, 0, none⟩) (dishes (List.drop 1 [o])) from (RV.nil _ _ _)); have HB9 := Lib.hid (show w9.heap.size + 1 = w9.heap.size + 1 from rfl); clear c9) | (with_reducible refine app_only ?_; refine step_app (w9.alloc (.cells #[.int .i64 0, .int .i64 y9] 32)) rfl _ _ _ rfl dish_EId w.heap.size (.slice (some ⟨w9.heap.size, 0, none⟩) 1 1) 1 [.int .i64 0, .int .i64 y9] rfl (newG w9 32 [.int .i64 0, .int .i64 y9] 2 rfl hs9) (some ⟨b3, 0, none⟩) 0 0 (dishes (List.drop 1 [o])) rfl ?_ (HR9.out.below (below_al (Below.refl _ _) _)) (dishes_one _) ?_ ?_ ?_ ?_; all_goals (first | (intro v10 w10 hO10 hg10; have b10 : Below w.heap.size w9 w10 := below_app' hs9 (newG w9 32 [.int .i64 0, .int .i64 y9] 2 rfl hs9) hg10) | ((try simp only [dishes_length, maxLen, List.length_drop, List.length_nil, List.length_cons, World.size_alloc]) <;> omega))) | (with_reducible refine app_only ?_; refine step_app ((w9.alloc (.cells #[.int .i64 (-1), .int .i64 31] 3)).alloc (.cells #[.int .i64 0, .int .i64 y9] 32)) rfl _ _ _ rfl dish_EId w.heap.size (.slice (some ⟨w9.heap.size + 1, 0, none⟩) 1 1) 1 [.int .i64 0, .int .i64 y9] rfl (newG2 w9 (.cells #[.int .i64 (-1), .int .i64 31] 3) 32 [.int .i64 0, .int .i64 y9] 2 rfl hs9) (some ⟨b3, 0, none⟩) 0 0 (dishes (List.drop 1 [o])) rfl ?_ (HR9.out.below (below_al (below_al (Below.refl _ _) _) _)) (dishes_one _) ?_ ?_ ?_ ?_; all_goals (first | (intro v10 w10 hO10 hg10; have b10 : Below w.heap.size w9 w10 := new_belowG2 (o := .cells #[.int .i64 (-1), .int .i64 31] 3) (T := 32) (cs := [.int .i64 0, .int .i64 y9]) (s := 2) hs9 rfl hg10) | ((try simp only [dishes_length, maxLen, List.length_drop, List.length_nil, List.length_cons, World.size_alloc]) <;> omega))))
              all_goals (go_wp2; go_ret; exact ⟨_, (0, y9) :: List.drop 1 [o], rfl, od_consD hO10, by simp only [List.length_drop, List.length_cons, List.length_nil] <;> omega, (r9.belowB b10 hg.2).more (by omega), hC9.and_below b10⟩)
            · skip
              go_region_law (first | (go_simp; go_at_call 48; refine (pick_any base g (M + 42) 2 _ (by first | exact r8.below ((Below.refl _ _).drew) | exact r8.below ((below_al (Below.refl _ _) _).drew)) (by omega) (by omega) (by omega)).mono ?_; rintro e w9 ⟨v9, rfl, ⟨hv0, hv2⟩, r9, c9⟩; obtain ⟨y9, hya, hyb, hyc⟩ := pair_get (W := w9) (-1) 31 v9 hv0 hv2; have hy4 := hyc _ _ (Blk.new w9 3 #[.int .i64 (-1), .int .i64 31]); (try (have hy5 := hyc _ _ (blk_chg (w := (w8.alloc (.cells #[.int .i64 (-1), .int .i64 31] 3)).drew) (Blk.new w8 3 #[.int .i64 (-1), .int .i64 31]) c9 (by omega)))); clear hyc; have hC9 : Chg g (g + 1) w w9 := (by first | exact (hC8.and_below ((Below.refl _ _).drew)).trans c9 | exact (hC8.and_below (((Below.refl _ _).alloc hs8 _).drew)).trans c9); have hs9 := hC9.size; have HO9 := Lib.hid (show OD w9 w.heap.size (.slice (some ⟨b3, 0, none⟩) os.length c3) (os) from (by first | exact own_chg (own_likeD (w' := w8.drew) HO8.out rfl) c9 hg.2 | exact own_chg (own_likeD (w := w8.alloc (.cells #[.int .i64 (-1), .int .i64 31] 3)) (w' := (w8.alloc (.cells #[.int .i64 (-1), .int .i64 31] 3)).drew) (HO8.out.alloc _) rfl) c9 hg.2)); have HR9 := Lib.hid (show RV w9 w9.heap.size (some ⟨b3, 2, none⟩) (dishes (List.drop 1 os)) from (od_tailD HO9.out ho1)); have HB9 := Lib.hid (show w9.heap.size + 1 = w9.heap.size + 1 from rfl); clear c9) | (with_reducible refine app_only ?_; refine step_app (w9.alloc (.cells #[.int .i64 0, .int .i64 y9] 32)) rfl _ _ _ rfl dish_EId w.heap.size (.slice (some ⟨w9.heap.size, 0, none⟩) 1 1) 1 [.int .i64 0, .int .i64 y9] rfl (newG w9 32 [.int .i64 0, .int .i64 y9] 2 rfl hs9) (some ⟨b3, 2, none⟩) (os.length - 1) (c3 - 1) (dishes (List.drop 1 os)) rfl ?_ (HR9.out.below (below_al (Below.refl _ _) _)) (dishes_one _) ?_ ?_ ?_ ?_; all_goals (first | (intro v10 w10 hO10 hg10; have b10 : Below w.heap.size w9 w10 := below_app' hs9 (newG w9 32 [.int .i64 0, .int .i64 y9] 2 rfl hs9) hg10) | ((try simp only [dishes_length, maxLen, List.length_drop, List.length_nil, List.length_cons, World.size_alloc]) <;> omega))) | (with_reducible refine app_only ?_; refine step_app ((w9.alloc (.cells #[.int .i64 (-1), .int .i64 31] 3)).alloc (.cells #[.int .i64 0, .int .i64 y9] 32)) rfl _ _ _ rfl dish_EId w.heap.size (.slice (some ⟨w9.heap.size + 1, 0, none⟩) 1 1) 1 [.int .i64 0, .int .i64 y9] rfl (newG2 w9 (.cells #[.int .i64 (-1), .int .i64 31] 3) 32 [.int .i64 0, .int .i64 y9] 2 rfl hs9) (some ⟨b3, 2, none⟩) (os.length - 1) (c3 - 1) (dishes (List.drop 1 os)) rfl ?_ (HR9.out.below (below_al (below_al (Below.refl _ _) _) _)) (dishes_one _) ?_ ?_ ?_ ?_; all_goals (first | (intro v10 w10 hO10 hg10; have b10 : Below w.heap.size w9 w10 := new_belowG2 (o := .cells #[.int .i64 (-1), .int .i64 31] 3) (T := 32) (cs := [.int .i64 0, .int .i64 y9]) (s := 2) hs9 rfl hg10) | ((try simp only [dishes_length, maxLen, List.length_drop, List.length_nil, List.length_cons, World.size_alloc]) <;> omega))))
              all_goals (go_wp2; go_ret; exact ⟨_, (0, y9) :: List.drop 1 os, rfl, od_consD hO10, by simp only [List.length_drop, List.length_cons, List.length_nil] <;> omega, (r9.belowB b10 hg.2).more (by omega), hC9.and_below b10⟩)
end Go.Proofs.YtnehedcelfpegaaDoor
