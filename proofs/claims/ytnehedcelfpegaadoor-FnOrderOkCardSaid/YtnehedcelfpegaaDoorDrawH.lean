/- An order is drawn. -/
import Derived.Test.YtnehedcelfpegaaDoorDraw2
import Derived.Test.YtnehedcelfpegaaDoorDrawS
import Derived.Test.YtnehedcelfpegaaDoorAt
set_option linter.unusedVariables false
set_option linter.unusedSimpArgs false
namespace Go.Proofs.YtnehedcelfpegaaDoor
open Go.ChangeShapes Go.WideShapes Go.ChangeAt Go.RowKit

theorem own_takeH {w : World} {base n c g : Nat} {os : List Int} (h : w.ownsRow base 3 1 (.slice (some ⟨g, 0, none⟩) n c) n (ints os)) (a : Nat) (ha : a ≤ n) : w.ownsRow base 3 1 (.slice (some ⟨g, 0, none⟩) a c) a (ints (os.take a)) := by
  have hl : os.length = n := by have := h.1; rw [ints_length] at this; omega
  refine ⟨by rw [ints_length, List.length_take]; omega, ?_⟩
  rcases h.2 with ⟨hv, -⟩ | ⟨g', cap, cur, hv, hb, hg, hnc, hcm, hcs, ht⟩
  · injection hv with h1; cases h1
  · refine .inr ⟨g', cap, cur, ?_, hb, hg, by omega, hcm, hcs, ?_⟩
    · injection hv with h1 h2 h3
      rw [h1, h3]
    · have e : cur.toList.take (a * 1) = (cur.toList.take (n * 1)).take (a * 1) := by rw [List.take_take]; congr 1; omega
      rw [e, ht]
      simp [ints, List.map_take]
theorem oi_dropH {W : World} {base n c b : Nat} {os : List Int} (h : W.ownsRow base 3 1 (.slice (some ⟨b, 0, none⟩) n c) n (ints os)) (a : Nat) : RV W W.heap.size (some ⟨b, a, none⟩) (ints (os.drop a)) := by
  intro hp
  have hl : os.length = n := by have := h.1; rw [ints_length] at this; omega
  refine ⟨b, a, rfl, (World.ownsRow.lt h b rfl).2, fun j hj => ?_⟩
  have hj' : a + j < os.length := by rw [ints_length, List.length_drop] at hj; omega
  rw [World.ownsRow.cellAt h (a + j) (by omega)]
  simp [ints, List.getElem_drop, hj']
theorem own_nilH {w : World} {base n : Nat} {e : TypeId} {size : Nat} {v : Value} {cs : List Value} (h : w.ownsRow base e size v (0 + n) ([] ++ cs)) : w.ownsRow base e size v n cs := by
  rwa [Nat.zero_add, List.nil_append] at h
theorem rv_newH2 (w : World) (o : Obj) (cs : Array Value) (t : TypeId) : RV ((w.alloc o).alloc (.cells cs t)) (w.heap.size + 1 + 1) (some ⟨w.heap.size + 1, 0, none⟩) cs.toList := by
  have := rv_new (w.alloc o) cs t
  rw [show (w.alloc o).heap.size = w.heap.size + 1 by simp] at this
  exact this
theorem below_appH2 {w0 w w' : World} {o o' : Obj} {e : TypeId} {size n : Nat} {v : Value} {xs : List Value} (hs : w0.heap.size ≤ w.heap.size) (ho : ((w.alloc o).alloc o').ownsRow w0.heap.size e size v n xs) (hg : ((w.alloc o).alloc o').grownBy w' v.ownBlock) : Below w0.heap.size w w' :=
  ((Below.refl w0.heap.size w).alloc hs o).trans (below_app' (w := w.alloc o) (by simp; omega) ho hg)
set_option maxHeartbeats 8000000 in
theorem l20Shuffle_any (base g M m : Nat) (n : Int) (w : World) (h : Rd w base g M) (hM : M ≤ 900000) (hm : m ≤ 100) (hn : 0 ≤ n) (hn2 : n ≤ 1000) :
    Calls Tryd.prog 49 #[.pointer (some ⟨g, 0, none⟩), .int .i64 m, .int .i64 n] w fun e w' => ∃ (v : Value) (os : List Int), e = .returned v ∧ OI w' w.heap.size v os ∧ os.length ≤ m + 1 ∧ Rd w' base g (M + 200) ∧ Chg g (g + 1) w w' := by
  have hg := h.lt
  have O1 : (w.alloc (.cells #[] 3)).ownsRow w.heap.size 3 1 (.slice (some ⟨w.heap.size, 0, none⟩) 0 0) 0 [] := own_empty w _ 1 _ (Nat.le_refl _)
  have r1 := h.below (below_al (Below.refl _ _) (.cells #[] 3))
  have C1 : Chg g (g + 1) w (w.alloc (.cells #[] 3)) := (Chg.refl g (g + 1) w).and_al _
  clear h
  go_enter Tryd.func49, Tryd.ntmps49
  go_wp2
  go_loopw [7, 8] (fun v i wr => ∃ (k b c : Nat) (v0 : Value) (os : List Int), k ≤ m ∧ v0 = v ∧ v0 = .slice (some ⟨b, 0, none⟩) k c ∧ i = .int .i64 (k : Int) ∧ os.length = k ∧ wr.ownsRow w.heap.size 3 1 (.slice (some ⟨b, 0, none⟩) k c) k (ints os) ∧ Rd wr base g (M + k) ∧ Chg g (g + 1) w wr) (fun _ i _ => m - (intOf i).toNat)
  case atStart => exact ⟨0, _, _, _, [], by omega, rfl, rfl, rfl, rfl, O1, r1, C1⟩
  case round =>
    clear O1 r1 C1
    obtain ⟨k, b, c, v, os, hk, rfl, rfl, rfl, hol, hO, hR, hC⟩ := hrel
    have hb := (World.ownsRow.lt hO b rfl).1
    have hkc : k ≤ c := by
      obtain ⟨A', c', e, -, hc, -⟩ := own_form hO
      injection e with _ _ e3
      omega
    by_cases hlt : k < m
    · have hs := hC.size
      go_wp2_with fail
      refine (pick_any base g _ ((k : Int) + 1) _ hR (by omega) (by omega) (by omega)).mono ?_
      rintro e w2 ⟨at', rfl, ⟨hy0, hy3⟩, r2, c2⟩
      obtain ⟨a, rfl⟩ : ∃ a : Nat, at' = a := ⟨at'.toNat, by omega⟩
      have hO2 : w2.ownsRow w.heap.size 3 1 (.slice (some ⟨b, 0, none⟩) k c) k (ints os) := own_chg hO c2 hg.2
      have hC2 := hC.trans c2
      have hs2 := hC2.size
      have hak : a ≤ k := by omega
      have hbl : b < w2.heap.size := (World.ownsRow.lt hO2 b rfl).2
      have HO2 := Lib.hid hO2
      have HD := Lib.hid (oi_dropH hO2 a)
      have hdl : (os.drop a).length = k - a := by rw [List.length_drop, hol]
      have HDL := Lib.hid hdl
      have HTL := Lib.hid (show (os.take a).length = a by rw [List.length_take]; omega)
      clear hO hR c2 hO2 hdl
      have key : ∀ (A5 : Option Addr) (c5 : Nat) (w3 : World), w3.ownsRow w2.heap.size 3 1 (.slice A5 (k - a) c5) (k - a) (ints (os.drop a)) → Below w2.heap.size w2 w3 →
          ∀ (v5 : Value) (w5 : World), w5.ownsRow w.heap.size 3 1 v5 (a + 1) (ints (os.take a) ++ [.int .i64 k]) → (w3.alloc (.cells #[.int .i64 k] 3)).grownBy w5 (some b) →
          RV w5 w5.heap.size A5 (ints (os.drop a)) ∧ Below w.heap.size w2 w5 := by
        intro A5 c5 w3 h3 b3 v5 w5 h5 g5
        have hlt3 := World.ownsRow.lt h3
        have h3' : w5.ownsRow w2.heap.size 3 1 (.slice A5 (k - a) c5) (k - a) (ints (os.drop a)) := (h3.alloc (.cells #[.int .i64 k] 3)).kept g5 (by
          cases hv : (Value.slice A5 (k - a) c5).ownBlock with
          | none => exact .inl rfl
          | some q => exact .inr (fun e => by injection e with e; have := hlt3 q hv; omega))
        obtain ⟨A6, c6, e6, r6, -⟩ := own_form h3'
        injection e6 with e61 _ _
        subst e61
        refine ⟨r6, (below_al b3 (.cells #[.int .i64 k] 3)).mono hs2 |>.grown g5 ?_ (fun q hq => by injection hq with hq; omega)⟩
        have := b3.size; simp; omega
      have HK := Lib.hid key
      clear key
      by_cases hac : a = c
      · obtain rfl : a = k := by omega
        subst hac
        have hd0 : os.drop a = [] := List.drop_eq_nil_of_le (by omega)
        rw [hd0] at HK HD
        go_wp2_with (first | (at_builtin; refine wpList_app _ rfl _ _ 23 rfl int_EId w2.heap.size (.slice (some ⟨w2.heap.size, 0, none⟩) 0 0) 0 [] rfl (own_empty _ _ 1 _ (Nat.le_refl _)) (some ⟨b, 0, none⟩) 0 0 (ints []) rfl rfl (RV.nil _ (w2.heap.size) _) (ints_one _) (le_max (by omega)) (by omega) (by simp) ?_; intro v3 w3 hO3 hg3 _; have b3 : Below w2.heap.size w2 w3 := below_app (below_al (Below.refl _ _) _) (own_empty _ _ 1 _ (Nat.le_refl _)) hg3; obtain ⟨A5, c5, rfl, -⟩ := own_form (own_nilH hO3)) | (at_builtin; refine wpList_app _ rfl _ _ 23 rfl int_EId w.heap.size (.slice (some ⟨b, 0, none⟩) a a) a (ints (os.take a)) rfl ((own_takeH (own_below HO2.out b3) a (Nat.le_refl _)).alloc _) (some ⟨w3.heap.size, 0, none⟩) 1 1 [.int .i64 a] rfl rfl (rv_new _ _ _) (one1 _) (le_max (by omega)) (by omega) (by have := b3.size; simp; omega) ?_; intro v5 w5 hO5 hg5 _; have hK := HK.out A5 c5 w3 (by rw [Nat.sub_self]; exact own_nilH hO3) b3 v5 w5 hO5 hg5) | (at_builtin; refine wpList_app _ rfl _ _ 23 rfl int_EId w.heap.size v5 (a + 1) _ rfl hO5 A5 0 c5 (ints []) rfl rfl hK.1 (ints_one _) (le_max (by omega)) (by omega) (by have := hK.2.size; omega) ?_; intro v6 w6 hO6 hg6 _))
        have b6 : Below w.heap.size w2 w6 := hK.2.grown hg6 (by have := hK.2.size; omega) (fun q hq => (World.ownsRow.lt hO5 q hq).1)
        have hO7 : w6.ownsRow w.heap.size 3 1 v6 (a + 1) (ints (os.take a ++ [(a : Int)])) := by rw [ints_append]; simpa [ints] using hO6
        obtain ⟨A7, c7, rfl, -⟩ := own_form hO7
        obtain ⟨b7, rfl, -⟩ := own_head hO7 (by omega)
        go_roundw
        case rel => exact ⟨a + 1, b7, c7, _, os.take a ++ [(a : Int)], by omega, rfl, rfl, by go_num, by simp [HTL.out], hO7, (r2.belowB b6 hg.2).more (by omega), hC2.and_below b6⟩
        case measure => simp [intOf]; omega
      · have hac2 : a < c := by omega
        go_wp2_with (first | (at_builtin; refine wpList_app _ rfl _ _ 23 rfl int_EId w2.heap.size (.slice (some ⟨w2.heap.size, 0, none⟩) 0 0) 0 [] rfl (own_empty _ _ 1 _ (Nat.le_refl _)) (some ⟨b, a, none⟩) (k - a) (c - a) (ints (os.drop a)) rfl (by rw [ints_length, HDL.out, Nat.mul_one]) (HD.out.below (below_al (Below.refl _ _) _)) (ints_one _) (le_max (by omega)) (by omega) (by simp) ?_; intro v3 w3 hO3 hg3 _; have b3 : Below w2.heap.size w2 w3 := below_app (below_al (Below.refl _ _) _) (own_empty _ _ 1 _ (Nat.le_refl _)) hg3; obtain ⟨A5, c5, rfl, -⟩ := own_form (own_nilH hO3)) | (at_builtin; refine wpList_app _ rfl _ _ 23 rfl int_EId w.heap.size (.slice (some ⟨b, 0, none⟩) a c) a (ints (os.take a)) rfl ((own_takeH (own_below HO2.out b3) a hak).alloc _) (some ⟨w3.heap.size, 0, none⟩) 1 1 [.int .i64 k] rfl rfl (rv_new _ _ _) (one1 _) (le_max (by omega)) (by omega) (by have := b3.size; simp; omega) ?_; intro v5 w5 hO5 hg5 _; have hK := HK.out A5 c5 w3 (own_nilH hO3) b3 v5 w5 hO5 hg5) | (at_builtin; refine wpList_app _ rfl _ _ 23 rfl int_EId w.heap.size v5 (a + 1) _ rfl hO5 A5 (k - a) c5 (ints (os.drop a)) rfl (by rw [ints_length, HDL.out, Nat.mul_one]) hK.1 (ints_one _) (le_max (by omega)) (by omega) (by have := hK.2.size; omega) ?_; intro v6 w6 hO6 hg6 _))
        have b6 : Below w.heap.size w2 w6 := hK.2.grown hg6 (by have := hK.2.size; omega) (fun q hq => (World.ownsRow.lt hO5 q hq).1)
        have hO7 : w6.ownsRow w.heap.size 3 1 v6 (k + 1) (ints (os.take a ++ [(k : Int)] ++ os.drop a)) := by
          rw [ints_append, ints_append]
          rw [show a + 1 + (k - a) = k + 1 by omega] at hO6
          exact hO6
        obtain ⟨A7, c7, rfl, -⟩ := own_form hO7
        obtain ⟨b7, rfl, -⟩ := own_head hO7 (by omega)
        go_roundw
        case rel => exact ⟨k + 1, b7, c7, _, os.take a ++ [(k : Int)] ++ os.drop a, by omega, rfl, rfl, by go_num, by simp only [List.length_append, HTL.out, HDL.out, List.length_cons, List.length_nil]; omega, hO7, (r2.belowB b6 hg.2).more (by omega), hC2.and_below b6⟩
        case measure => simp [intOf]; omega
    · obtain rfl : k = m := by omega
      have hs := hC.size
      have HO := Lib.hid hO
      have hRx := hR.more (show M + k ≤ M + 150 by omega)
      clear hO hR
      go_wp2_with fail
      refine (odd_any base g (M + 150) n _ hRx (by omega) hn (by omega)).mono ?_
      rintro e w7 ⟨bb, rfl, r7, c7⟩
      have HO7 := Lib.hid (own_chg HO.out c7 hg.2)
      have hC7 := hC.trans c7
      have hs7 := hC7.size
      clear c7
      cases bb
      · go_wp2
        go_ret
        exact ⟨_, os, rfl, by unfold OI; rw [hol]; exact HO7.out, by omega, r7.more (by omega), hC7⟩
      · have r8 := r7
        have hC8 := hC7
        have hs8 := hs7
        have hg8 := r8.lt
        go_wp2_with fail
        refine (pick_any base g (M + 151) 2 _ (by first | exact r8 | exact r8.below (below_al (Below.refl _ _) _)) (by omega) (by omega) (by omega)).mono ?_
        rintro e w9 ⟨v9, rfl, ⟨hv0, hv2⟩, r9, c9⟩
        obtain ⟨y9, hya, hyb, hyc⟩ := pair_get (W := w9) (k : Int) 0 v9 hv0 hv2
        have hy5 := hyc _ _ (blk_chg (Blk.new w7 3 #[.int .i64 (k : Int), .int .i64 0]) c9 (by omega))
        have hC9 := (hC8.and_al _).trans c9
        have hs9 := hC9.size
        have HO9 := Lib.hid (own_chg (HO7.out.alloc _) c9 hg.2)
        clear hyc c9
        go_wp2_with (at_builtin; refine wpList_app _ rfl _ _ 23 rfl int_EId w.heap.size (.slice (some ⟨b, 0, none⟩) k c) k (ints os) rfl (HO9.out.alloc _) (some ⟨w9.heap.size, 0, none⟩) 1 1 [.int .i64 y9] rfl rfl (rv_new _ _ _) (one1 _) (le_max (by omega)) (by omega) (by simp; omega) ?_; intro v10 w10 hO10 hg10 _)
        have b10 : Below w.heap.size w9 w10 := below_app' hs9 (HO9.out.alloc _) hg10
        go_ret
        exact ⟨_, os ++ [y9], rfl, oi_pushD (by rw [hol]; exact hO10), by simp [hol], (r9.belowB b10 hg.2).more (by omega), hC9.and_below b10⟩
end Go.Proofs.YtnehedcelfpegaaDoor
