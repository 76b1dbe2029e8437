/- A ticket is drawn. -/
import Derived.Test.YthbledeghanffaaDoorDraw1
import Derived.Test.YthbledeghanffaaDoorTick6
import Derived.Lib.MinMax
import Derived.BigRegion
import Derived.Deep.RegionWith
set_option linter.unusedVariables false
set_option linter.unusedSimpArgs false
namespace Go.Proofs.YthbledeghanffaaDoor
open Go.ChangeShapes Go.WideShapes Go.ChangeAt Go.RowKit

/-- A ticket was drawn. -/
def DrawOP (w : World) (base g M : Nat) (e : Ending) (w' : World) : Prop := ∃ (v : Value) (os : List Ord), e = .returned v ∧ OO w' w.heap.size v os ∧ os.length ≤ 100 ∧ Rd w' base g (M + 100) ∧ Chg g (g + 1) w w'
theorem seven {w : World} {k : Nat} (h : Blk w k 3 [.int .i64 0, .int .i64 0, .int .i64 1, .int .i64 1, .int .i64 2, .int .i64 2, .int .i64 3]) (v : Int) (h0 : 0 ≤ v) (h1 : v < 7) : ∃ y : Int, w.cell? ⟨k, v.toNat, none⟩ = some (.int .i64 y) := by
  have hv : v.toNat = 0 ∨ v.toNat = 1 ∨ v.toNat = 2 ∨ v.toNat = 3 ∨ v.toNat = 4 ∨ v.toNat = 5 ∨ v.toNat = 6 := by omega
  have hc := h.cell v.toNat (by simp; omega)
  rcases hv with e | e | e | e | e | e | e <;> (rw [hc]; simp [e])
theorem doF_le (os : List Ord) (i e : Int) : (doF os i e).1.length ≤ os.length := by
  unfold doF
  split
  · simp
  · split
    · exact Nat.le_refl _
    · split
      · exact Nat.le_refl _
      · split
        · rw [setSt_length]; exact Nat.le_refl _
        · exact Nat.le_refl _
theorem newF_le (xs : List Int) : (newF xs).length ≤ xs.length := by
  unfold newF; split
  · simp [ordered]
  · simp
theorem new_own {base : Nat} (w : World) (y : Int) (h : base ≤ w.heap.size) : (w.alloc (.cells #[.int .i64 y, .int .i64 0] 30)).ownsRow base 30 2 (.slice (some ⟨w.heap.size, 0, none⟩) 1 1) 1 [.int .i64 y, .int .i64 0] :=
  Blk.own (Blk.new w 30 #[.int .i64 y, .int .i64 0]) h rfl (by decide)
theorem new_own2 {base : Nat} (w : World) (y : Int) (h : base ≤ w.heap.size) : ((w.alloc (.cells #[.int .i64 (-1), .int .i64 3] 3)).alloc (.cells #[.int .i64 y, .int .i64 0] 30)).ownsRow base 30 2 (.slice (some ⟨w.heap.size + 1, 0, none⟩) 1 1) 1 [.int .i64 y, .int .i64 0] := by
  have e : (w.alloc (.cells #[.int .i64 (-1), .int .i64 3] 3)).heap.size = w.heap.size + 1 := by simp
  have := new_own (base := base) (w.alloc (.cells #[.int .i64 (-1), .int .i64 3] 3)) y (by omega)
  rw [e] at this; exact this
theorem new_below2 {w0 w w' : World} {y : Int} (h : w0.heap.size ≤ w.heap.size) (hg : ((w.alloc (.cells #[.int .i64 (-1), .int .i64 3] 3)).alloc (.cells #[.int .i64 y, .int .i64 0] 30)).grownBy w' (Value.slice (some ⟨w.heap.size + 1, 0, none⟩) 1 1).ownBlock) : Below w0.heap.size w w' := by
  have := below_app' (w := w.alloc (.cells #[.int .i64 (-1), .int .i64 3] 3)) (by simp; omega) (new_own2 w y h) hg
  exact ((Below.refl w0.heap.size w).alloc h _).trans this
theorem oo_some {W : World} {base c : Nat} {A : Option Addr} {os : List Ord} (h : OO W base (.slice A os.length c) os) (h1 : 1 ≤ os.length) : ∃ b, A = some ⟨b, 0, none⟩ ∧ os.length ≤ c := by
  obtain ⟨A', c', e, hr, hc, -, ha⟩ := own_form h
  injection e with e1 e2 e3
  subst e1 e3
  obtain ⟨b, off, rfl, -, -⟩ := hr (by rw [ords_length]; omega)
  obtain ⟨-, h2, -⟩ := ha _ rfl
  subst h2
  exact ⟨b, rfl, hc⟩
theorem oo_tail {W : World} {base c b : Nat} {os : List Ord} (h : OO W base (.slice (some ⟨b, 0, none⟩) os.length c) os) (h1 : 1 ≤ os.length) : RV W W.heap.size (some ⟨b, 2, none⟩) (ords (os.drop 1)) := by
  cases os with
  | nil => simp at h1
  | cons o t =>
    intro hp
    refine ⟨b, 2, rfl, (h.lt b rfl).2, fun j hj => ?_⟩
    have hl : (ords (o :: t)).length = (t.length + 1) * 2 := by rw [ords_length]; rfl
    have hj' : j < t.length * 2 := by simpa [ords_length] using hj
    rw [World.ownsRow.cellAt h (2 + j) (by simp; omega)]
    rw [show 2 + j = j + 2 by omega]
    have e : ords (o :: t) = .int .i64 o.1 :: .int .i64 o.2 :: ords t := by simp [ords, flat, encO]
    rw [e]; simp
theorem oo_cons {W : World} {base n : Nat} {v : Value} {y : Int} {os : List Ord} (h : W.ownsRow base 30 2 v n ([.int .i64 y, .int .i64 0] ++ ords os)) (hn : n = 1 + os.length := by first | rfl | (simp only [List.length_drop, List.length_cons, List.length_nil] <;> omega)) : OO W base v ((y, 0) :: os) := by
  subst hn
  have e : ords ((y, 0) :: os) = [.int .i64 y, .int .i64 0] ++ ords os := by simp [ords, flat, encO]
  unfold OO
  rw [e, List.length_cons, Nat.add_comm]; exact h
set_option maxHeartbeats 8000000 in
theorem l20Ticket_any (base g M : Nat) (n : Int) (w : World) (h : Rd w base g M) (hM : M ≤ 900000) (hn : 0 ≤ n) (hn2 : n ≤ 1000) :
    Calls Tryd.prog 59 #[.pointer (some ⟨g, 0, none⟩), .int .i64 n] w (DrawOP w base g M) := by
  have hg := h.lt
  go_enter Tryd.func59, Tryd.ntmps59
  go_wp2_with fail
  refine (pick_any base g M 7 _ (h.below (below_al (Below.refl _ _) _)) (by omega) (by omega) (by omega)).mono ?_
  rintro e w1 ⟨k0, rfl, ⟨hk0, hk7⟩, r1, c1⟩
  have C1 : Chg g (g + 1) w w1 := (Chg.refl g (g + 1) w).and_al _ |>.trans c1
  have O1 : w1.ownsRow w.heap.size 3 1 (.slice (some ⟨w.heap.size, 0, none⟩) 0 0) 0 [] := own_chg (own_empty w _ 1 _ (Nat.le_refl _)) c1 hg.2
  clear c1 h
  go_wp2
  go_loopw [5, 6] (fun v i wr => ∃ (k : Nat) (v0 : Value) (xs : List Int), k ≤ 6 ∧ v0 = v ∧ i = .int .i64 (k : Int) ∧ xs.length + k ≤ 6 ∧ OI wr w.heap.size v0 xs ∧ Rd wr base g (M + 1 + xs.length) ∧ Chg g (g + 1) w wr) (fun _ i _ => (intOf i).toNat)
  case atStart => exact ⟨k0.toNat, _, [], by omega, rfl, by congr 1; omega, by simp; omega, O1, r1, C1⟩
  case round =>
    clear O1 r1 C1
    obtain ⟨k, v, xs, hk, rfl, rfl, hxk, hO, hR, hC⟩ := hrel
    cases k with
    | succ k =>
      have hs := hC.size
      go_wp2_with fail
      refine (pick_any base g _ 3 _ hR (by omega) (by omega) (by omega)).mono ?_
      rintro e w2 ⟨y, rfl, ⟨hy0, hy3⟩, r2, c2⟩
      have hO2 : w2.ownsRow w.heap.size 3 1 v xs.length (ints xs) := own_chg hO c2 hg.2
      have hC2 := hC.trans c2
      clear hO hR c2
      go_wp2_with (at_builtin; refine wpList_app _ rfl (.tmp 18) (.tmp 21) 23 rfl int_EId w.heap.size v xs.length _ rfl (hO2.alloc _) (some ⟨_, 0, none⟩) 1 1 [.int .i64 y] rfl rfl (rv_new _ _ _) (one1 _) (le_max (by omega)) (by omega) (hC2.and_al _).size ?_; intro v3 w3 hO3 hg3 _)
      have b3 : Below w.heap.size w2 w3 := below_app' hC2.size (hO2.alloc _) hg3
      go_roundw
      case rel =>
        have e : (xs ++ [y]).length = xs.length + 1 := by simp
        exact ⟨k, _, xs ++ [y], by omega, rfl, by go_num, by omega, oi_pushD hO3, (r2.belowB b3 hg.2).more (by omega), hC2.and_below b3⟩
      case measure => simp [intOf]
    | zero =>
      have hxl : xs.length ≤ 6 := by omega
      obtain ⟨A2, c2, rfl, hr, -⟩ := own_form hO
      have hs := hC.size
      clear hO
      go_wp2_with fail
      refine (spec_ticketNew A2 c2 xs _ hr (by omega)).mono ?_
      rintro e w2 ⟨v2, rfl, o2, b2⟩
      have hnl := newF_le xs
      have hC2 := hC.and_step b2
      have hR2 := hR.below b2
      have hO2 := o2.mono hs
      clear o2 hR hC hr
      go_wp2_with fail
      refine (pick_any base g _ 16 _ hR2 (by omega) (by omega) (by omega)).mono ?_
      rintro e w3 ⟨k1, rfl, ⟨hk1, hk16⟩, r3, c3⟩
      have hO3 : OO w3 w.heap.size v2 (newF xs) := own_chg hO2 c3 hg.2
      have hC3 := hC2.trans c3
      have hR3 := r3.more (show M + 1 + xs.length + 1 ≤ M + 10 by omega)
      clear hO2 hC2 hR2 c3 r3
      go_wp2
      go_loopw [7, 8] (fun v i wr => ∃ (k : Nat) (v0 : Value) (os : List Ord), k ≤ 15 ∧ v0 = v ∧ i = .int .i64 (k : Int) ∧ os.length ≤ 6 ∧ OO wr w.heap.size v0 os ∧ Rd wr base g (M + 40 - 2 * k) ∧ Chg g (g + 1) w wr) (fun _ i _ => (intOf i).toNat)
      case atStart => exact ⟨k1.toNat, _, _, by omega, rfl, by congr 1; omega, by omega, hO3, hR3.more (by omega), hC3⟩
      case round =>
        clear hO3 hR3 hC3
        obtain ⟨k, v, os, hk, rfl, rfl, hol, hO, hR, hC⟩ := hrel
        obtain ⟨A3, c3, rfl, -⟩ := own_form hO
        have hs := hC.size
        by_cases hgo : 0 < k ∧ 0 < os.length
        · obtain ⟨hk0, ho0⟩ := hgo
          obtain ⟨k, rfl⟩ : ∃ k', k = k' + 1 := ⟨k - 1, by omega⟩
          have ho0z : (0 : Int) < (os.length : Int) := by omega
          go_wp2_with fail
          refine (pick_any base g _ (os.length : Int) _ hR (by omega) (by omega) (by omega)).mono ?_
          rintro e w4 ⟨i, rfl, ⟨hi0, hi1⟩, r4, c4⟩
          have hO4 : w4.ownsRow w.heap.size 30 2 (.slice A3 os.length c3) os.length (ords os) := own_chg hO c4 hg.2
          have hC4 := hC.trans c4
          clear hO hR hC c4
          go_wp2_with fail
          refine (pick_any base g _ 7 _ (r4.below (below_al (Below.refl _ _) _)) (by omega) (by omega) (by omega)).mono ?_
          rintro e w5 ⟨j, rfl, ⟨hj0, hj7⟩, r5, c5⟩
          have hB5 := blk_chg (Blk.new w4 3 #[.int .i64 0, .int .i64 0, .int .i64 1, .int .i64 1, .int .i64 2, .int .i64 2, .int .i64 3]) c5 (by have := r4.lt; omega)
          obtain ⟨y, hy⟩ := seven hB5 j hj0 hj7
          have hO5 := own_chg (hO4.alloc (.cells #[.int .i64 0, .int .i64 0, .int .i64 1, .int .i64 1, .int .i64 2, .int .i64 2, .int .i64 3] 3)) c5 hg.2
          have hC5 := (hC4.and_al (.cells #[.int .i64 0, .int .i64 0, .int .i64 1, .int .i64 1, .int .i64 2, .int .i64 2, .int .i64 3] 3)).trans c5
          have hs5 := hC5.size
          obtain ⟨A5, c5', e5, hr5, -⟩ := own_form hO5
          injection e5 with e51 _ e53
          subst e51 e53
          have HO5 := Lib.hid hO5
          clear hO4 hC4 r4 c5 hB5 hO5
          go_wp2_with fail
          refine (spec_ticketDo _ _ _ _ _ _ hr5 (by omega)).mono ?_
          rintro e w6 ⟨v6, rfl, o6, b6⟩
          have hlen := doF_le os i y
          have HO6 := Lib.hid (OO.mono o6 hs5)
          have hC6 := hC5.and_step b6
          have hR6 := r5.below b6
          clear o6 hr5
          go_wp2
          go_roundw
          case rel => exact ⟨k, _, _, by omega, rfl, by go_num, by omega, HO6.out, hR6.more (by omega), hC6⟩
          case measure => simp [intOf]
        · have HO := Lib.hid hO
          have hRx := hR.more (show M + 40 - 2 * k ≤ M + 40 by omega)
          clear hO hR
          have hex : k = 0 ∨ (0 < k ∧ os = []) := by
            rcases Nat.eq_zero_or_pos k with e | e
            · exact .inl e
            · exact .inr ⟨e, List.eq_nil_of_length_eq_zero (by omega)⟩
          clear hgo
          rcases hex with e | ⟨e1, e2⟩
          rotate_left
          · subst e2
            have hkz : (0 : Int) < (k : Int) := by omega
            go_wp2_with fail
            refine (odd_any base g (M + 40) n _ hRx (by omega) hn (by omega)).mono ?_
            rintro e w7 ⟨b, rfl, r7, c7⟩
            have HO7 := Lib.hid (own_chg HO.out c7 hg.2)
            have hC7 := hC.trans c7
            have hs7 := hC7.size
            clear c7
            cases b
            · go_wp2
              go_ret
              exact ⟨_, _, rfl, HO7.out, by first | omega | simp, r7.more (by omega), hC7⟩
            · go_wp2_with fail
              refine (pick_any base g _ 3 _ r7 (by omega) (by omega) (by omega)).mono ?_
              rintro e w8 ⟨y, rfl, ⟨hy0, hy3⟩, r8, c8⟩
              have HO8 := Lib.hid (own_chg HO7.out c8 hg.2)
              have hC8 := hC7.trans c8
              have hs8 := hC8.size
              have hg8 := r8.lt
              rcases (show y = 0 ∨ y = 1 ∨ y = 2 by omega) with rfl | rfl | rfl
              · have hmk : ∀ W : World, (Instr.makeSlice 25 (.int .i64 7) (.int .i64 7)).run Tryd.prog W = .ok (.slice (some ⟨W.heap.size, 0, none⟩) 7 7) (W.alloc (.cells #[.int .i64 0, .int .i64 0, .int .i64 0, .int .i64 0, .int .i64 0, .int .i64 0, .int .i64 0, .int .i64 0, .int .i64 0, .int .i64 0, .int .i64 0, .int .i64 0, .int .i64 0, .int .i64 0] 30)) := fun _ => by kernel_rfl
                have hO9 := Blk.new w8 30 #[.int .i64 0, .int .i64 0, .int .i64 0, .int .i64 0, .int .i64 0, .int .i64 0, .int .i64 0, .int .i64 0, .int .i64 0, .int .i64 0, .int .i64 0, .int .i64 0, .int .i64 0, .int .i64 0]
                have HO9 := Lib.hid hO9
                clear hO9
                go_wp2
                go_ret
                exact ⟨_, List.replicate 7 (0, 0), rfl, HO9.out.own hs8 rfl (by decide), by decide, (r8.below (below_al (Below.refl _ _) _)).more (by omega), hC8.and_al _⟩
              · go_wp2_with fail
                have hmin : min (1 : Int) 0 = 0 := rfl
                have hA0 : Option.map (fun x : Addr => x.add 0) A3 = A3 := by cases A3 <;> rfl
                go_region_law (first | (go_simp; go_at_call 54; refine (pick_any base g (M + 42) 2 _ (by first | exact r8.below ((Below.refl _ _).drew) | exact r8.below ((below_al (Below.refl _ _) _).drew)) (by omega) (by omega) (by omega)).mono ?_; rintro e w9 ⟨v9, rfl, ⟨hv0, hv2⟩, r9, c9⟩; obtain ⟨y9, hya, hyb, hyc⟩ := pair_get (W := w9) (-1) 3 v9 hv0 hv2; have hy4 := hyc _ _ (Blk.new w9 3 #[.int .i64 (-1), .int .i64 3]); (try (have hy5 := hyc _ _ (blk_chg (w := (w8.alloc (.cells #[.int .i64 (-1), .int .i64 3] 3)).drew) (Blk.new w8 3 #[.int .i64 (-1), .int .i64 3]) c9 (by omega)))); clear hyc; have hC9 : Chg g (g + 1) w w9 := (by first | exact (hC8.and_below ((Below.refl _ _).drew)).trans c9 | exact (hC8.and_below (((Below.refl _ _).alloc hs8 _).drew)).trans c9); have hs9 := hC9.size; have HO9 := Lib.hid (show OO w9 w.heap.size (.slice A3 0 c3) [] from (by first | exact own_chg (own_likeD (w' := w8.drew) HO8.out rfl) c9 hg.2 | exact own_chg (own_likeD (w := w8.alloc (.cells #[.int .i64 (-1), .int .i64 3] 3)) (w' := (w8.alloc (.cells #[.int .i64 (-1), .int .i64 3] 3)).drew) (HO8.out.alloc _) rfl) c9 hg.2)); have HR9 := Lib.hid (show RV w9 w9.heap.size A3 (ords (List.drop 1 [])) from (RV.nil _ _ _)); have HB9 := Lib.hid (show w9.heap.size + 1 = w9.heap.size + 1 from rfl); clear c9) | (with_reducible refine app_only ?_; refine step_app (w9.alloc (.cells #[.int .i64 y9, .int .i64 0] 30)) rfl _ _ _ rfl ord_EI w.heap.size (.slice (some ⟨w9.heap.size, 0, none⟩) 1 1) 1 [.int .i64 y9, .int .i64 0] rfl (new_own w9 y9 hs9) A3 0 c3 (ords (List.drop 1 [])) rfl ?_ (HR9.out.below (below_al (Below.refl _ _) _)) (ords_one _) ?_ ?_ ?_ ?_; all_goals (first | (intro v10 w10 hO10 hg10; have b10 : Below w.heap.size w9 w10 := below_app' hs9 (new_own w9 y9 hs9) hg10) | ((try simp only [ords_length, maxLen, List.length_drop, List.length_nil, List.length_cons, World.size_alloc]) <;> omega))) | (with_reducible refine app_only ?_; refine step_app ((w9.alloc (.cells #[.int .i64 (-1), .int .i64 3] 3)).alloc (.cells #[.int .i64 y9, .int .i64 0] 30)) rfl _ _ _ rfl ord_EI w.heap.size (.slice (some ⟨w9.heap.size + 1, 0, none⟩) 1 1) 1 [.int .i64 y9, .int .i64 0] rfl (new_own2 w9 y9 hs9) A3 0 c3 (ords (List.drop 1 [])) rfl ?_ (HR9.out.below (below_al (below_al (Below.refl _ _) _) _)) (ords_one _) ?_ ?_ ?_ ?_; all_goals (first | (intro v10 w10 hO10 hg10; have b10 : Below w.heap.size w9 w10 := new_below2 hs9 hg10) | ((try simp only [ords_length, maxLen, List.length_drop, List.length_nil, List.length_cons, World.size_alloc]) <;> omega))))
                all_goals (go_wp2; go_ret; exact ⟨_, (y9, 0) :: List.drop 1 [], rfl, oo_cons hO10, by simp only [List.length_drop, List.length_cons, List.length_nil] <;> omega, (r9.belowB b10 hg.2).more (by omega), hC9.and_below b10⟩)
              · go_wp2_with fail
                refine (pick_any base g _ 3 _ r8 (by omega) (by omega) (by omega)).mono ?_
                rintro e w9 ⟨z, rfl, ⟨hz0, hz3⟩, r9, c9⟩
                have hC9 := hC8.trans c9
                have hs9 := hC9.size
                have HO9 := Lib.hid (Blk.new w9 30 #[.int .i64 0, .int .i64 0, .int .i64 1, .int .i64 (1 + z)])
                go_wp2
                go_ret
                exact ⟨_, [(0, 0), (1, 1 + z)], rfl, HO9.out.own hs9 rfl (by decide), by simp, (r9.below (below_al (Below.refl _ _) _)).more (by omega), hC9.and_al _⟩
          · subst e
            go_wp2_with fail
            refine (odd_any base g (M + 40) n _ hRx (by omega) hn (by omega)).mono ?_
            rintro e w7 ⟨b, rfl, r7, c7⟩
            have HO7 := Lib.hid (own_chg HO.out c7 hg.2)
            have hC7 := hC.trans c7
            have hs7 := hC7.size
            clear c7
            cases b
            · go_wp2
              go_ret
              exact ⟨_, _, rfl, HO7.out, by first | omega | simp, r7.more (by omega), hC7⟩
            · go_wp2_with fail
              refine (pick_any base g _ 3 _ r7 (by omega) (by omega) (by omega)).mono ?_
              rintro e w8 ⟨y, rfl, ⟨hy0, hy3⟩, r8, c8⟩
              have HO8 := Lib.hid (own_chg HO7.out c8 hg.2)
              have hC8 := hC7.trans c8
              have hs8 := hC8.size
              have hg8 := r8.lt
              rcases (show y = 0 ∨ y = 1 ∨ y = 2 by omega) with rfl | rfl | rfl
              · have hmk : ∀ W : World, (Instr.makeSlice 25 (.int .i64 7) (.int .i64 7)).run Tryd.prog W = .ok (.slice (some ⟨W.heap.size, 0, none⟩) 7 7) (W.alloc (.cells #[.int .i64 0, .int .i64 0, .int .i64 0, .int .i64 0, .int .i64 0, .int .i64 0, .int .i64 0, .int .i64 0, .int .i64 0, .int .i64 0, .int .i64 0, .int .i64 0, .int .i64 0, .int .i64 0] 30)) := fun _ => by kernel_rfl
                have hO9 := Blk.new w8 30 #[.int .i64 0, .int .i64 0, .int .i64 0, .int .i64 0, .int .i64 0, .int .i64 0, .int .i64 0, .int .i64 0, .int .i64 0, .int .i64 0, .int .i64 0, .int .i64 0, .int .i64 0, .int .i64 0]
                have HO9 := Lib.hid hO9
                clear hO9
                go_wp2
                go_ret
                exact ⟨_, List.replicate 7 (0, 0), rfl, HO9.out.own hs8 rfl (by decide), by decide, (r8.below (below_al (Below.refl _ _) _)).more (by omega), hC8.and_al _⟩
              · go_wp2_with fail
                rcases (show os = [] ∨ 1 ≤ os.length by cases os <;> simp) with rfl | ho1
                · have hmin : min (1 : Int) 0 = 0 := rfl
                  have hA0 : Option.map (fun x : Addr => x.add 0) A3 = A3 := by cases A3 <;> rfl
                  go_region_law (first | (go_simp; go_at_call 54; refine (pick_any base g (M + 42) 2 _ (by first | exact r8.below ((Below.refl _ _).drew) | exact r8.below ((below_al (Below.refl _ _) _).drew)) (by omega) (by omega) (by omega)).mono ?_; rintro e w9 ⟨v9, rfl, ⟨hv0, hv2⟩, r9, c9⟩; obtain ⟨y9, hya, hyb, hyc⟩ := pair_get (W := w9) (-1) 3 v9 hv0 hv2; have hy4 := hyc _ _ (Blk.new w9 3 #[.int .i64 (-1), .int .i64 3]); (try (have hy5 := hyc _ _ (blk_chg (w := (w8.alloc (.cells #[.int .i64 (-1), .int .i64 3] 3)).drew) (Blk.new w8 3 #[.int .i64 (-1), .int .i64 3]) c9 (by omega)))); clear hyc; have hC9 : Chg g (g + 1) w w9 := (by first | exact (hC8.and_below ((Below.refl _ _).drew)).trans c9 | exact (hC8.and_below (((Below.refl _ _).alloc hs8 _).drew)).trans c9); have hs9 := hC9.size; have HO9 := Lib.hid (show OO w9 w.heap.size (.slice A3 0 c3) [] from (by first | exact own_chg (own_likeD (w' := w8.drew) HO8.out rfl) c9 hg.2 | exact own_chg (own_likeD (w := w8.alloc (.cells #[.int .i64 (-1), .int .i64 3] 3)) (w' := (w8.alloc (.cells #[.int .i64 (-1), .int .i64 3] 3)).drew) (HO8.out.alloc _) rfl) c9 hg.2)); have HR9 := Lib.hid (show RV w9 w9.heap.size A3 (ords (List.drop 1 [])) from (RV.nil _ _ _)); have HB9 := Lib.hid (show w9.heap.size + 1 = w9.heap.size + 1 from rfl); clear c9) | (with_reducible refine app_only ?_; refine step_app (w9.alloc (.cells #[.int .i64 y9, .int .i64 0] 30)) rfl _ _ _ rfl ord_EI w.heap.size (.slice (some ⟨w9.heap.size, 0, none⟩) 1 1) 1 [.int .i64 y9, .int .i64 0] rfl (new_own w9 y9 hs9) A3 0 c3 (ords (List.drop 1 [])) rfl ?_ (HR9.out.below (below_al (Below.refl _ _) _)) (ords_one _) ?_ ?_ ?_ ?_; all_goals (first | (intro v10 w10 hO10 hg10; have b10 : Below w.heap.size w9 w10 := below_app' hs9 (new_own w9 y9 hs9) hg10) | ((try simp only [ords_length, maxLen, List.length_drop, List.length_nil, List.length_cons, World.size_alloc]) <;> omega))) | (with_reducible refine app_only ?_; refine step_app ((w9.alloc (.cells #[.int .i64 (-1), .int .i64 3] 3)).alloc (.cells #[.int .i64 y9, .int .i64 0] 30)) rfl _ _ _ rfl ord_EI w.heap.size (.slice (some ⟨w9.heap.size + 1, 0, none⟩) 1 1) 1 [.int .i64 y9, .int .i64 0] rfl (new_own2 w9 y9 hs9) A3 0 c3 (ords (List.drop 1 [])) rfl ?_ (HR9.out.below (below_al (below_al (Below.refl _ _) _) _)) (ords_one _) ?_ ?_ ?_ ?_; all_goals (first | (intro v10 w10 hO10 hg10; have b10 : Below w.heap.size w9 w10 := new_below2 hs9 hg10) | ((try simp only [ords_length, maxLen, List.length_drop, List.length_nil, List.length_cons, World.size_alloc]) <;> omega))))
                  all_goals (go_wp2; go_ret; exact ⟨_, (y9, 0) :: List.drop 1 [], rfl, oo_cons hO10, by simp only [List.length_drop, List.length_cons, List.length_nil] <;> omega, (r9.belowB b10 hg.2).more (by omega), hC9.and_below b10⟩)
                · obtain ⟨b3, rfl, hoc⟩ := oo_some HO8.out ho1
                  have ho1z : (1 : Int) ≤ (os.length : Int) := by omega
                  have hmin : min (1 : Int) (os.length : Int) = 1 := by omega
                  by_cases hc1 : c3 = 1
                  · subst hc1
                    obtain ⟨o, rfl⟩ : ∃ o, os = [o] := List.length_eq_one_iff.1 (by omega)
                    go_region_law (first | (go_simp; go_at_call 54; refine (pick_any base g (M + 42) 2 _ (by first | exact r8.below ((Below.refl _ _).drew) | exact r8.below ((below_al (Below.refl _ _) _).drew)) (by omega) (by omega) (by omega)).mono ?_; rintro e w9 ⟨v9, rfl, ⟨hv0, hv2⟩, r9, c9⟩; obtain ⟨y9, hya, hyb, hyc⟩ := pair_get (W := w9) (-1) 3 v9 hv0 hv2; have hy4 := hyc _ _ (Blk.new w9 3 #[.int .i64 (-1), .int .i64 3]); (try (have hy5 := hyc _ _ (blk_chg (w := (w8.alloc (.cells #[.int .i64 (-1), .int .i64 3] 3)).drew) (Blk.new w8 3 #[.int .i64 (-1), .int .i64 3]) c9 (by omega)))); clear hyc; have hC9 : Chg g (g + 1) w w9 := (by first | exact (hC8.and_below ((Below.refl _ _).drew)).trans c9 | exact (hC8.and_below (((Below.refl _ _).alloc hs8 _).drew)).trans c9); have hs9 := hC9.size; have HO9 := Lib.hid (show OO w9 w.heap.size (.slice (some ⟨b3, 0, none⟩) 1 1) [o] from (by first | exact own_chg (own_likeD (w' := w8.drew) HO8.out rfl) c9 hg.2 | exact own_chg (own_likeD (w := w8.alloc (.cells #[.int .i64 (-1), .int .i64 3] 3)) (w' := (w8.alloc (.cells #[.int .i64 (-1), .int .i64 3] 3)).drew) (HO8.out.alloc _) rfl) c9 hg.2)); have HR9 := Lib.hid (show RV w9 w9.heap.size (some ⟨b3, 0, none⟩) (ords (List.drop 1 [o])) from (RV.nil _ _ _)); have HB9 := Lib.hid (show w9.heap.size + 1 = w9.heap.size + 1 from rfl); clear c9) | (with_reducible refine app_only ?_; refine step_app (w9.alloc (.cells #[.int .i64 y9, .int .i64 0] 30)) rfl _ _ _ rfl ord_EI w.heap.size (.slice (some ⟨w9.heap.size, 0, none⟩) 1 1) 1 [.int .i64 y9, .int .i64 0] rfl (new_own w9 y9 hs9) (some ⟨b3, 0, none⟩) 0 0 (ords (List.drop 1 [o])) rfl ?_ (HR9.out.below (below_al (Below.refl _ _) _)) (ords_one _) ?_ ?_ ?_ ?_; all_goals (first | (intro v10 w10 hO10 hg10; have b10 : Below w.heap.size w9 w10 := below_app' hs9 (new_own w9 y9 hs9) hg10) | ((try simp only [ords_length, maxLen, List.length_drop, List.length_nil, List.length_cons, World.size_alloc]) <;> omega))) | (with_reducible refine app_only ?_; refine step_app ((w9.alloc (.cells #[.int .i64 (-1), .int .i64 3] 3)).alloc (.cells #[.int .i64 y9, .int .i64 0] 30)) rfl _ _ _ rfl ord_EI w.heap.size (.slice (some ⟨w9.heap.size + 1, 0, none⟩) 1 1) 1 [.int .i64 y9, .int .i64 0] rfl (new_own2 w9 y9 hs9) (some ⟨b3, 0, none⟩) 0 0 (ords (List.drop 1 [o])) rfl ?_ (HR9.out.below (below_al (below_al (Below.refl _ _) _) _)) (ords_one _) ?_ ?_ ?_ ?_; all_goals (first | (intro v10 w10 hO10 hg10; have b10 : Below w.heap.size w9 w10 := new_below2 hs9 hg10) | ((try simp only [ords_length, maxLen, List.length_drop, List.length_nil, List.length_cons, World.size_alloc]) <;> omega))))
                    all_goals (go_wp2; go_ret; exact ⟨_, (y9, 0) :: List.drop 1 [o], rfl, oo_cons hO10, by simp only [List.length_drop, List.length_cons, List.length_nil] <;> omega, (r9.belowB b10 hg.2).more (by omega), hC9.and_below b10⟩)
                  · skip
                    go_region_law (first | (go_simp; go_at_call 54; refine (pick_any base g (M + 42) 2 _ (by first | exact r8.below ((Below.refl _ _).drew) | exact r8.below ((below_al (Below.refl _ _) _).drew)) (by omega) (by omega) (by omega)).mono ?_; rintro e w9 ⟨v9, rfl, ⟨hv0, hv2⟩, r9, c9⟩; obtain ⟨y9, hya, hyb, hyc⟩ := pair_get (W := w9) (-1) 3 v9 hv0 hv2; have hy4 := hyc _ _ (Blk.new w9 3 #[.int .i64 (-1), .int .i64 3]); (try (have hy5 := hyc _ _ (blk_chg (w := (w8.alloc (.cells #[.int .i64 (-1), .int .i64 3] 3)).drew) (Blk.new w8 3 #[.int .i64 (-1), .int .i64 3]) c9 (by omega)))); clear hyc; have hC9 : Chg g (g + 1) w w9 := (by first | exact (hC8.and_below ((Below.refl _ _).drew)).trans c9 | exact (hC8.and_below (((Below.refl _ _).alloc hs8 _).drew)).trans c9); have hs9 := hC9.size; have HO9 := Lib.hid (show OO w9 w.heap.size (.slice (some ⟨b3, 0, none⟩) os.length c3) os from (by first | exact own_chg (own_likeD (w' := w8.drew) HO8.out rfl) c9 hg.2 | exact own_chg (own_likeD (w := w8.alloc (.cells #[.int .i64 (-1), .int .i64 3] 3)) (w' := (w8.alloc (.cells #[.int .i64 (-1), .int .i64 3] 3)).drew) (HO8.out.alloc _) rfl) c9 hg.2)); have HR9 := Lib.hid (show RV w9 w9.heap.size (some ⟨b3, 2, none⟩) (ords (List.drop 1 os)) from (oo_tail HO9.out ho1)); have HB9 := Lib.hid (show w9.heap.size + 1 = w9.heap.size + 1 from rfl); clear c9) | (with_reducible refine app_only ?_; refine step_app (w9.alloc (.cells #[.int .i64 y9, .int .i64 0] 30)) rfl _ _ _ rfl ord_EI w.heap.size (.slice (some ⟨w9.heap.size, 0, none⟩) 1 1) 1 [.int .i64 y9, .int .i64 0] rfl (new_own w9 y9 hs9) (some ⟨b3, 2, none⟩) (os.length - 1) (c3 - 1) (ords (List.drop 1 os)) rfl ?_ (HR9.out.below (below_al (Below.refl _ _) _)) (ords_one _) ?_ ?_ ?_ ?_; all_goals (first | (intro v10 w10 hO10 hg10; have b10 : Below w.heap.size w9 w10 := below_app' hs9 (new_own w9 y9 hs9) hg10) | ((try simp only [ords_length, maxLen, List.length_drop, List.length_nil, List.length_cons, World.size_alloc]) <;> omega))) | (with_reducible refine app_only ?_; refine step_app ((w9.alloc (.cells #[.int .i64 (-1), .int .i64 3] 3)).alloc (.cells #[.int .i64 y9, .int .i64 0] 30)) rfl _ _ _ rfl ord_EI w.heap.size (.slice (some ⟨w9.heap.size + 1, 0, none⟩) 1 1) 1 [.int .i64 y9, .int .i64 0] rfl (new_own2 w9 y9 hs9) (some ⟨b3, 2, none⟩) (os.length - 1) (c3 - 1) (ords (List.drop 1 os)) rfl ?_ (HR9.out.below (below_al (below_al (Below.refl _ _) _) _)) (ords_one _) ?_ ?_ ?_ ?_; all_goals (first | (intro v10 w10 hO10 hg10; have b10 : Below w.heap.size w9 w10 := new_below2 hs9 hg10) | ((try simp only [ords_length, maxLen, List.length_drop, List.length_nil, List.length_cons, World.size_alloc]) <;> omega))))
                    all_goals (go_wp2; go_ret; exact ⟨_, (y9, 0) :: List.drop 1 os, rfl, oo_cons hO10, by simp only [List.length_drop, List.length_cons, List.length_nil] <;> omega, (r9.belowB b10 hg.2).more (by omega), hC9.and_below b10⟩)
              · go_wp2_with fail
                refine (pick_any base g _ 3 _ r8 (by omega) (by omega) (by omega)).mono ?_
                rintro e w9 ⟨z, rfl, ⟨hz0, hz3⟩, r9, c9⟩
                have hC9 := hC8.trans c9
                have hs9 := hC9.size
                have HO9 := Lib.hid (Blk.new w9 30 #[.int .i64 0, .int .i64 0, .int .i64 1, .int .i64 (1 + z)])
                go_wp2
                go_ret
                exact ⟨_, [(0, 0), (1, 1 + z)], rfl, HO9.out.own hs9 rfl (by decide), by simp, (r9.below (below_al (Below.refl _ _) _)).more (by omega), hC9.and_al _⟩
end Go.Proofs.YthbledeghanffaaDoor
