/- A kitchen is drawn. -/
import Derived.Test.YthbledeghanffaaDoorDrawT
import Derived.Test.YthbledeghanffaaDoorKit
set_option linter.unusedVariables false
set_option linter.unusedSimpArgs false
namespace Go.Proofs.YthbledeghanffaaDoor
open Go.ChangeShapes Go.WideShapes Go.ChangeAt Go.RowKit

section
variable {w w' : World} {lo : Nat} {vs : List Value} {rows : List Row}
theorem Inn.chg {g : Nat} (h : Inn w lo vs rows) (c : Chg g (g + 1) w w') (hg : g < lo) : Inn w' lo vs rows :=
  ⟨h.len, fun j hj hj' => by obtain ⟨Aj, cj, e, ho⟩ := h.at_ j hj hj'; exact ⟨Aj, cj, e, own_chg ho c hg⟩, h.apart⟩
theorem Inn.push2 {v : Value} {n : Nat} {cs : List Value} (h : Inn w lo vs rows) (h2 : Inn w' lo vs rows) (ho : w'.ownsRow w.heap.size 30 2 v n cs) (hl : lo ≤ w.heap.size) : Inn w' lo (vs ++ [v]) (rows ++ [(n, cs)]) := by
  obtain ⟨Av, cv, rfl, -⟩ := own_form ho
  refine ⟨by simp [h.len], fun j hj hj' => ?_, fun i j hi hj hij => ?_⟩
  · by_cases hlt : j < rows.length
    · have hlt' : j < vs.length := by rw [h.len]; exact hlt
      obtain ⟨Aj, cj, e, ho'⟩ := h2.at_ j hlt hlt'
      refine ⟨Aj, cj, ?_, ?_⟩
      · rw [List.getElem_append_left hlt', List.getElem_append_left hlt]; exact e
      · rw [List.getElem_append_left hlt]; exact ho'
    · have hje : j = rows.length := by simp at hj; omega
      subst hje
      refine ⟨Av, cv, ?_, ?_⟩
      · rw [List.getElem_append_right (by rw [h.len]; exact Nat.le_refl _), List.getElem_append_right (Nat.le_refl _)]; simp [h.len]
      · rw [List.getElem_append_right (Nat.le_refl _)]; simp; exact own_mono ho hl
  · by_cases hlt : j < vs.length
    · rw [List.getElem_append_left (by omega), List.getElem_append_left hlt]
      exact h.apart i j (by omega) hlt hij
    · have hje : j = vs.length := by simp at hj; omega
      subst hje
      rw [List.getElem_append_left (by omega), List.getElem_append_right (Nat.le_refl _)]
      simp
      intro g hg hg'
      obtain ⟨Ai, ci, e, ho'⟩ := h.at_ i (by rw [← h.len]; omega) (by omega)
      rw [e] at hg
      have h1 := (World.ownsRow.lt ho' g hg).2
      have h3 := (World.ownsRow.lt ho g hg').1
      omega
theorem Inn.grown {lo' n : Nat} {v : Value} {ws : List Value} (h : Inn w lo vs rows) (hv : w.ownsRow lo' 25 1 v n ws) (hg : w.grownBy w' v.ownBlock) : Inn w' lo vs rows := by
  refine ⟨h.len, fun j hj hj' => ?_, h.apart⟩
  obtain ⟨Aj, cj, e, ho⟩ := h.at_ j hj hj'
  refine ⟨Aj, cj, e, ho.kept hg ?_⟩
  cases hb : (Value.slice Aj rows[j].1 cj).ownBlock with
  | none => exact .inl rfl
  | some k =>
    refine .inr fun e2 => ?_
    obtain ⟨c1, h1⟩ := own_type ho hb
    obtain ⟨c2, h2⟩ := own_type hv e2.symm
    rw [h1] at h2
    injection h2 with h2
    injection h2 with _ h2 _
    exact types_differ h2.symm
end
theorem sl_EId : EI Tryd.prog 35 25 1 24 := EI.mk Tryd.underlying35 sl_info rfl (by omega)
theorem rows_push (ks : List (List Ord)) (os : List Ord) : rowsOf (ks ++ [os]) = rowsOf ks ++ [(os.length, ords os)] := by simp [rowsOf]
theorem inn_nils (w : World) (lo n : Nat) : Inn w lo (List.replicate n (.slice none 0 0)) (rowsOf (List.replicate n [])) := by
  refine ⟨by simp [rowsOf], fun j hj hj' => ⟨none, 0, ?_, ?_⟩, fun i j hi hj hij g h1 _ => ?_⟩
  · simp only [rowsOf, List.getElem_map, List.getElem_replicate]; rfl
  · have e : (rowsOf (List.replicate n []))[j] = (0, []) := by simp only [rowsOf, List.getElem_map, List.getElem_replicate]; rfl
    rw [e]
    exact World.ownsRow_nil _ _ _ 2
  · rw [List.getElem_replicate] at h1
    simp [Value.ownBlock] at h1
/-- A kitchen was drawn. -/
def DrawKP (w : World) (base g M : Nat) (e : Ending) (w' : World) : Prop := ∃ (v : Value) (ks : List (List Ord)), e = .returned v ∧ OK w' w.heap.size v (rowsOf ks) ∧ (ks.length ≤ 5 ∧ ∀ os ∈ ks, os.length ≤ 100) ∧ Rd w' base g (M + 1000) ∧ Chg g (g + 1) w w'
set_option maxRecDepth 20000 in
set_option maxHeartbeats 8000000 in
theorem l20Kitchen_any (base g M : Nat) (n : Int) (w : World) (h : Rd w base g M) (hM : M ≤ 800000) (hn : 0 ≤ n) (hn2 : n ≤ 1000) :
    Calls Tryd.prog 62 #[.pointer (some ⟨g, 0, none⟩), .int .i64 n] w (DrawKP w base g M) := by
  have hg := h.lt
  go_enter Tryd.func62, Tryd.ntmps62
  go_wp2_with fail
  refine (pick_any base g M 5 _ (h.below (below_al (Below.refl _ _) _)) (by omega) (by omega) (by omega)).mono ?_
  rintro e w1 ⟨k0, rfl, ⟨hk0, hk7⟩, r1, c1⟩
  have C1 : Chg g (g + 1) w w1 := (Chg.refl g (g + 1) w).and_al _ |>.trans c1
  have O1 : w1.ownsRow w.heap.size 25 1 (.slice (some ⟨w.heap.size, 0, none⟩) 0 0) 0 [] := own_chg (own_empty w _ 1 _ (Nat.le_refl _)) c1 hg.2
  clear c1 h
  go_wp2
  go_loopw [5, 6] (fun v i wr => ∃ (k : Nat) (v0 : Value) (ks : List (List Ord)) (vs : List Value), k ≤ 4 ∧ v0 = v ∧ i = .int .i64 (k : Int) ∧ ks.length + k ≤ 4 ∧ (∀ os ∈ ks, os.length ≤ 100) ∧ wr.ownsRow w.heap.size 25 1 v0 ks.length vs ∧ Inn wr w.heap.size vs (rowsOf ks) ∧ Rd wr base g (M + 1 + 100 * ks.length) ∧ Chg g (g + 1) w wr) (fun _ i _ => (intOf i).toNat)
  case atStart => exact ⟨k0.toNat, _, [], [], by omega, rfl, by congr 1; omega, by simp; omega, (fun os ho => by cases ho), O1, Inn.nil _ _, r1, C1⟩
  case round =>
    clear O1 r1 C1
    obtain ⟨k, v, ks, vs, hk, rfl, rfl, hkk, hks, hO, hI, hR, hC⟩ := hrel
    cases k with
    | succ k =>
      have hs := hC.size
      go_wp2_with fail
      refine (l20Ticket_any base g _ 0 _ hR (by omega) (by omega) (by omega)).mono ?_
      rintro e w2 ⟨vt, os, rfl, o2, hol, r2, c2⟩
      have hO2 := own_chg hO c2 hg.2
      have hI2 := hI.push2 (hI.chg c2 hg.2) o2 hs
      rw [← rows_push] at hI2
      have hC2 := hC.trans c2
      clear hO hI hR c2
      obtain ⟨At, ct, rfl, -⟩ := own_form o2
      clear o2
      go_wp2_with (at_builtin; refine wpList_app _ rfl _ _ 35 rfl sl_EId w.heap.size v ks.length _ rfl (hO2.alloc _) (some ⟨_, 0, none⟩) 1 1 [.slice At os.length ct] rfl rfl (rv_new _ _ _) (one_slice _ _ _) (le_max (by omega)) (by omega) (hC2.and_al _).size ?_; intro v3 w3 hO3 hg3 _)
      have b3 : Below w.heap.size w2 w3 := below_app' hC2.size (hO2.alloc _) hg3
      have hI3 : Inn w3 w.heap.size (vs ++ [.slice At os.length ct]) (rowsOf (ks ++ [os])) := (hI2.below (below_al (Below.refl _ _) _)).grown (hO2.alloc _) hg3
      go_roundw
      case rel =>
        have e : (ks ++ [os]).length = ks.length + 1 := by simp
        exact ⟨k, _, ks ++ [os], _, by omega, rfl, by go_num, by omega, fun x hx => by
          rcases List.mem_append.1 hx with h1 | h1
          · exact hks x h1
          · rw [List.mem_singleton.1 h1]; exact hol, by rw [e]; exact hO3, hI3, (r2.belowB b3 hg.2).more (by omega), hC2.and_below b3⟩
      case measure => simp [intOf]
    | zero =>
      have hs := hC.size
      go_wp2_with fail
      refine (odd_any base g _ n _ hR (by omega) hn (by omega)).mono ?_
      rintro e w7 ⟨b, rfl, r7, c7⟩
      have hO7 := own_chg hO c7 hg.2
      have hI7 := hI.chg c7 hg.2
      have hC7 := hC.trans c7
      have hs7 := hC7.size
      clear c7 hO hI hR hC
      cases b
      · have HO := Lib.hid (show OK w7 w.heap.size v (rowsOf ks) from ⟨vs, by rw [rowsOf_length]; exact hO7, hI7⟩)
        clear hO7 hI7
        go_wp2
        go_ret
        exact ⟨_, ks, rfl, HO.out, ⟨by omega, hks⟩, r7.more (by omega), hC7⟩
      · go_wp2_with fail
        refine (pick_any base g _ 2 _ r7 (by omega) (by omega) (by omega)).mono ?_
        rintro e w8 ⟨y, rfl, ⟨hy0, hy3⟩, r8, c8⟩
        have hO8 := own_chg hO7 c8 hg.2
        have hI8 := hI7.chg c8 hg.2
        have hC8 := hC7.trans c8
        have hs8 := hC8.size
        clear c8 hO7 hI7 hC7
        rcases (show y = 0 ∨ y = 1 by omega) with rfl | rfl
        · have hmk : ∀ W : World, (Instr.makeSlice 35 (.int .i64 5) (.int .i64 5)).run Tryd.prog W = .ok (.slice (some ⟨W.heap.size, 0, none⟩) 5 5) (W.alloc (.cells #[.slice none 0 0, .slice none 0 0, .slice none 0 0, .slice none 0 0, .slice none 0 0] 25)) := fun _ => by kernel_rfl
          have hO9 : OK (w8.alloc (.cells #[.slice none 0 0, .slice none 0 0, .slice none 0 0, .slice none 0 0, .slice none 0 0] 25)) w.heap.size (.slice (some ⟨w8.heap.size, 0, none⟩) 5 5) (rowsOf (List.replicate 5 [])) :=
            ⟨List.replicate 5 (.slice none 0 0), (Blk.new w8 25 #[.slice none 0 0, .slice none 0 0, .slice none 0 0, .slice none 0 0, .slice none 0 0]).own hs8 rfl (by decide), inn_nils _ _ 5⟩
          have HO9 := Lib.hid hO9
          clear hO9 hO8 hI8
          go_wp2
          go_ret
          exact ⟨_, List.replicate 5 [], rfl, HO9.out, ⟨by simp, fun os ho => by rw [(List.mem_replicate.1 ho).2]; simp⟩, (r8.below (below_al (Below.refl _ _) _)).more (by omega), hC8.and_al _⟩
        · go_wp2_with fail
          refine (l20Ticket_any base g _ 1 _ r8 (by omega) (by omega) (by omega)).mono ?_
          rintro e w9 ⟨vt, os, rfl, o9, hol, r9, c9⟩
          have hO9 := own_chg hO8 c9 hg.2
          have hI9 := hI8.push2 (hI8.chg c9 hg.2) o9 hs8
          rw [← rows_push] at hI9
          have hC9 := hC8.trans c9
          clear hO8 hI8 hC8 c9
          obtain ⟨At, ct, rfl, -⟩ := own_form o9
          clear o9
          go_wp2_with (at_builtin; refine wpList_app _ rfl _ _ 35 rfl sl_EId w.heap.size v ks.length _ rfl (hO9.alloc _) (some ⟨_, 0, none⟩) 1 1 [.slice At os.length ct] rfl rfl (rv_new _ _ _) (one_slice _ _ _) (le_max (by omega)) (by omega) (hC9.and_al _).size ?_; intro v3 w3 hO3 hg3 _)
          have b3 : Below w.heap.size w9 w3 := below_app' hC9.size (hO9.alloc _) hg3
          have hI3 : Inn w3 w.heap.size (vs ++ [.slice At os.length ct]) (rowsOf (ks ++ [os])) := (hI9.below (below_al (Below.refl _ _) _)).grown (hO9.alloc _) hg3
          have e : (ks ++ [os]).length = ks.length + 1 := by simp
          have HK := Lib.hid (show OK w3 w.heap.size v3 (rowsOf (ks ++ [os])) from ⟨_, by rw [rowsOf_length, e]; exact hO3, hI3⟩)
          clear hO3 hI3 hO9 hI9
          go_ret
          exact ⟨_, ks ++ [os], rfl, HK.out, ⟨by omega, fun x hx => by
            rcases List.mem_append.1 hx with h1 | h1
            · exact hks x h1
            · rw [List.mem_singleton.1 h1]; exact hol⟩, (r9.belowB b3 hg.2).more (by omega), hC9.and_below b3⟩
end Go.Proofs.YthbledeghanffaaDoor
