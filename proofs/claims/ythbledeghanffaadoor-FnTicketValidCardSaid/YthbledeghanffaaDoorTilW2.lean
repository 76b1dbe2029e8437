/- FnTicketValid: the law's walk. -/
import Derived.Test.YthbledeghanffaaDoorDrawTs
import Derived.Test.YthbledeghanffaaDoorCrsP
import Derived.Test.YthbledeghanffaaDoorStepP
import Derived.Test.YthbledeghanffaaDoorTilS
import Derived.Deep.RegionLaw
import Derived.Deep.RegionHeld3
set_option linter.unusedVariables false
set_option linter.unusedSimpArgs false
namespace Go.Proofs.YthbledeghanffaaDoor
open Go.ChangeShapes Go.WideShapes Go.ChangeAt Go.RowKit

theorem readyB_sub {l l' : List Ord} {c : Int} (hs : ∀ o ∈ l', o ∈ l) (h : readyB l c = true) : readyB l' c = true := by
  unfold readyB at *
  rw [List.all_eq_true] at *
  exact fun o ho => h o (hs o ho)
theorem ticket_cut {os : List Ord} (h : ticketB os = true) (k : Nat) (hk : k < os.length) : ticketB (os.take k ++ os.drop (k + 1)) = true := by
  have hs : ∀ o ∈ os.take k ++ os.drop (k + 1), o ∈ os := fun o ho => by
    rcases List.mem_append.1 ho with h1 | h1
    · exact List.mem_of_mem_take h1
    · exact List.mem_of_mem_drop h1
  simp only [ticketB, Bool.and_eq_true, decide_eq_true_eq, List.all_eq_true] at h ⊢
  refine ⟨fun o ho => ?_, by simp; omega⟩
  have h1 := h.1 o (hs o ho)
  simp only [tOk, Bool.and_eq_true, Bool.or_eq_true] at h1 ⊢
  refine ⟨h1.1, h1.2.1, ?_⟩
  rcases h1.2.2 with h2 | h2
  · exact .inl h2
  · exact .inr (readyB_sub hs h2)
def plO (o : Ord) : Ord := (o.1, 0)
theorem ticket_plain {os : List Ord} (h : ticketB os = true) : ticketB (os.map plO) = true := by
  simp only [ticketB, Bool.and_eq_true, decide_eq_true_eq, List.all_eq_true] at h ⊢
  refine ⟨fun o ho => ?_, by rw [List.length_map]; exact h.2⟩
  obtain ⟨p, hp, rfl⟩ := List.mem_map.1 ho
  have h1 := h.1 p hp
  simp only [tOk, Bool.and_eq_true] at h1 ⊢
  exact ⟨h1.1, by simp [plO, inB], by simp [plO, inB]⟩
theorem ords_take (os : List Ord) (k : Nat) : ords (os.take k) = (ords os).take (k * 2) := by
  induction os generalizing k with
  | nil => simp [ords, flat]
  | cons o t ih =>
    cases k with
    | zero => simp [ords, flat]
    | succ k =>
      rw [show (k + 1) * 2 = k * 2 + 1 + 1 by omega]
      show encO o ++ ords (t.take k) = (encO o ++ ords t).take _
      rw [ih k]
      rfl
theorem ords_drop (os : List Ord) (k : Nat) : ords (os.drop k) = (ords os).drop (k * 2) := by
  induction os generalizing k with
  | nil => simp [ords, flat]
  | cons o t ih =>
    cases k with
    | zero => simp
    | succ k =>
      rw [show (k + 1) * 2 = k * 2 + 1 + 1 by omega]
      show ords (t.drop k) = (encO o ++ ords t).drop _
      rw [ih k]
      rfl
theorem ords_app (xs ys : List Ord) : ords (xs ++ ys) = ords xs ++ ords ys := by simp [ords, flat]
theorem rv_takeV {w : World} {B : Nat} {A : Option Addr} {os : List Ord} (h : RV w B A (ords os)) (k : Nat) : RV w B A (ords (os.take k)) := by rw [ords_take]; exact h.take_ _
theorem rv_dropV {w : World} {B b off : Nat} {os : List Ord} (h : RV w B (some ⟨b, off, none⟩) (ords os)) (k : Nat) : RV w B (some ⟨b, off + k * 2, none⟩) (ords (os.drop k)) := by
  rw [ords_drop]
  intro hp
  have hl : k * 2 < (ords os).length := by simp at hp; omega
  obtain ⟨b', off', e, hb, hc⟩ := h (by omega)
  injection e with e
  injection e with e1 e2 _
  subst e1 e2
  refine ⟨b, off + k * 2, rfl, hb, fun j hj => ?_⟩
  have := hc (k * 2 + j) (by simp at hj; omega)
  rw [← Nat.add_assoc] at this
  rw [this, List.getElem_drop]
theorem oo_pushV {w : World} {base : Nat} {v : Value} {os : List Ord} {x y : Int} {n : Nat} (hn : os.length = n) (h : w.ownsRow base 30 2 v (n + 1) (ords os ++ [.int .i64 x, .int .i64 y])) : OO w base v (os ++ [(x, y)]) := by
  subst hn
  unfold OO
  rw [ords_app, List.length_append]; exact h
theorem pl_take_succ (os : List Ord) (k : Nat) (hk : k < os.length) : (os.map plO).take (k + 1) = (os.map plO).take k ++ [(os[k].1, 0)] := by
  rw [List.take_succ_eq_append_getElem (by simpa using hk)]; simp [plO]
theorem own_nilV {w : World} {base n : Nat} {e : TypeId} {size : Nat} {v : Value} {cs : List Value} (h : w.ownsRow base e size v (0 + n) ([] ++ cs)) : w.ownsRow base e size v n cs := by
  rwa [Nat.zero_add, List.nil_append] at h
theorem own_likeV {w w' : World} {base n size : Nat} {e : TypeId} {v : Value} {cs : List Value} (h : w.ownsRow base e size v n cs) (hh : w'.heap = w.heap) : w'.ownsRow base e size v n cs := own_likeD h hh
theorem step_appV {P : Program} (w : World) {ops : Array Oper} {o : Oper} {a : Act} {K : Act → World → Prop} {Q : Exit → Act → World → Prop} {E : Prop} (hw : Region.wanted o (yielded ops a.tmps) = true) (s x : Operand) (t : TypeId)
    (ho : o.op = .call { callee := .builtin .append, args := #[s, x], argTypes := #[t, t] }) {e : TypeId} {size bytes : Nat} (hE : EI P t e size bytes) (base : Nat) (v : Value) (n : Nat) (xs : List Value) (hs : a.eval s = v) (hown : w.ownsRow base e size v n xs)
    (A : Option Addr) (m c : Nat) (news : List Value) (hx : a.eval x = .slice A m c) (hl : news.length = m * size) {B : Nat} (hr : RV w B A news) (h1 : ∀ u ∈ news, u.oneCell' = true) (h63 : n + m ≤ maxLen) (hb : (n + m) * bytes ≤ 140737488355328) (hbase : base ≤ w.heap.size)
    (h : ∀ v' w', w'.ownsRow base e size v' (n + m) (xs ++ news) → w.grownBy w' v.ownBlock → K (a.put o.dst v') w') : if Region.wanted o (yielded ops a.tmps) = true then Oper.wp P o a w K Q else E := by
  rw [if_pos hw]
  obtain ⟨v', w', hrun, h2, h3, h4⟩ := run_app (P := P) w t o.type hE base v n xs hown A m c news hl hr h1 h63 hb hbase
  unfold Oper.wp execOp
  simp only [ho, resolve, invoke, builtin, Sem.run_bind, Sem.run_pure, Result.andThen_ok, List.map_toArray, List.map_cons, List.map_nil, hs, hx, hrun]
  exact h v' w' h2 h3
theorem own_neV {w : World} {base n size : Nat} {e : TypeId} {v : Value} {cs : List Value} (h : w.ownsRow base e size v n cs) : v.ownBlock = none ∨ v.ownBlock ≠ (Value.slice (some ⟨w.heap.size, 0, none⟩) 0 0).ownBlock := by
  cases hv : v.ownBlock with
  | none => exact .inl rfl
  | some g =>
    refine .inr fun e => ?_
    have := (World.ownsRow.lt h g hv).2
    have e2 : (Value.slice (some ⟨w.heap.size, 0, none⟩) 0 0).ownBlock = some w.heap.size := rfl
    rw [e2] at e
    injection e with e
    omega
theorem ord_EIV : EI Tryd.prog 25 30 2 16 := EI.mk Tryd.underlying25 order_info rfl (by omega)
theorem oneV2 (a b : Int) : ∀ u ∈ [Value.int .i64 a, .int .i64 b], u.oneCell' = true := by intro u hu; simp at hu; rcases hu with rfl | rfl <;> rfl
set_option maxRecDepth 20000 in
set_option maxHeartbeats 0 in
theorem walk_fnTicketValid (w : World) (A : Option Addr) (c : Nat) (xs : List Int) (h : RV w w.heap.size A (bts xs)) (hc : xs.length ≤ c) (hm : c ≤ maxLen) (hb : ∀ x ∈ xs, 0 ≤ x ∧ x ≤ 255) :
    Calls Tryd.prog 4 #[.slice A xs.length c] w fun e w' => e = .returned (.bool true) ∧ Below w.heap.size w w' := by
  unfold maxLen at hm
  by_cases hl : xs.length ≤ 1048576
  · have HD := Lib.hid (drawTicketValid_any A c xs w h hc hl hb)
    clear hb h
    have hd8 : decide ((1048576 : Int) < (xs.length : Int)) = false := decide_eq_false (by omega)
    go_enter Tryd.func4, Tryd.ntmps4
    go_wp2_with fail
    refine HD.out.mono ?_
    rintro e w1 ⟨v, os, rfl, o, hol, bel⟩
    obtain ⟨A1, c1, rfl, hr1, hc1, hc2, -⟩ := own_form o
    clear o HD hd8
    go_wp2_with fail
    refine (impl_ticketValid A1 c1 os _ hr1 (by omega)).mono ?_
    rintro e w2 ⟨rfl, b2⟩
    replace hr1 := RV.step hr1 b2
    replace bel := below_step bel b2
    clear b2
    go_wp2_with fail
    refine (spec_ticketValid A1 c1 os _ hr1 (by omega)).mono ?_
    rintro e w3 ⟨rfl, b3⟩
    replace hr1 := RV.step hr1 b3
    replace bel := below_step bel b3
    clear b3
    have hbb : (ticketB os == ticketB os) = true := by simp
    cases hs : ticketB os
    · go_wp2_with fail
      refine (alive_any _).mono ?_
      rintro e w6 ⟨rfl, b6⟩
      go_wp2
      go_ret
      exact ⟨rfl, below_step bel b6⟩
    · have h6 : os.length ≤ 6 := ticket_le hs
      have HPL := Lib.hid (ticket_plain hs)
      have HCUT := Lib.hid (fun k hk => ticket_cut hs k hk)
      clear hbb
      go_wp2
      go_loopw [5, 6] (fun v i wr => ∃ (k : Nat) (v0 : Value), k ≤ os.length ∧ v0 = v ∧ i = .int .i64 (k : Int) ∧ OO wr w3.heap.size v0 ((os.map plO).take k) ∧ Below w3.heap.size w3 wr) (fun _ i _ => os.length - (intOf i).toNat)
      case atStart => exact ⟨0, _, Nat.zero_le _, rfl, rfl, own_empty w3 _ 2 _ (Nat.le_refl _), below_al (Below.refl _ _) _⟩
      case round =>
        clear hs
        obtain ⟨k, v, hk, rfl, rfl, hO, hW⟩ := hrel
        by_cases hlt : k < os.length
        · obtain ⟨b, off, rfl, hb3, hcc⟩ := SO.at_ (show SO w3 w3.heap.size A1 os from hr1) (by omega)
          obtain ⟨e1, e2⟩ := hcc k hlt
          have HPS := Lib.hid (pl_take_succ os k hlt)
          have hlu : ((os.map plO).take k).length = k := by rw [List.length_take, List.length_map]; omega
          have hO2 : wr.ownsRow w3.heap.size 30 2 v k (ords ((os.map plO).take k)) := by unfold OO at hO; rwa [hlu] at hO
          have HLU := Lib.hid hlu
          have d1 : wr.cell? ⟨b, off + k * 2, none⟩ = some (.int .i64 os[k].1) := (hW.cell (p := ⟨b, off + k * 2, none⟩) hb3).trans e1
          have d2 : wr.cell? ⟨b, off + k * 2 + 1, none⟩ = some (.int .i64 os[k].2) := (hW.cell (p := ⟨b, off + k * 2 + 1, none⟩) hb3).trans e2
          have hbw : b < wr.heap.size := Nat.lt_of_lt_of_le hb3 hW.size
          have HTW : Hid (∀ (W : World) A8 c8, RV W W.heap.size A8 (ords (os.take k) ++ ords (os.drop (k + 1))) → Calls Tryd.prog 19 #[.slice A8 (k + (os.length - (k + 1))) c8] W fun e w' => e = .returned (.bool true) ∧ Below W.heap.size W w') := Lib.hid (by
            intro W A8 c8 hx
            have := impl_ticketValid A8 c8 (os.take k ++ os.drop (k + 1)) W (show RV _ _ _ _ by rw [ords_app]; exact hx) (by simp; omega)
            rw [HCUT.out k hlt] at this
            have e : (os.take k ++ os.drop (k + 1)).length = k + (os.length - (k + 1)) := by rw [List.length_append, List.length_take, List.length_drop]; omega
            rwa [e] at this)
          clear hcc hO hlu
          generalize os[k].1 = x at *
          generalize hq : os[k].2 = q at *
          clear hq
          go_wp2_with (at_builtin; (refine wpList_app _ rfl _ _ 25 rfl ord_EIV w3.heap.size v k _ rfl (hO2.alloc _) (some ⟨_, 0, none⟩) 1 1 [.int .i64 x, .int .i64 0] rfl rfl (rv_new _ _ _) (oneV2 _ _) (le_max (by omega)) (by omega) (below_al hW _).size ?_); (intro v5 w5 hO5 hg5 _); (have hW5 : Below w3.heap.size w3 w5 := below_app (below_al hW _) (hO2.alloc _) hg5); (have OP := Lib.hid (oo_pushV HLU.out hO5)); (have d5 : w5.cell? ⟨b, off + k * 2 + 1, none⟩ = some (.int .i64 q) := (hW5.cell (p := ⟨b, off + k * 2 + 1, none⟩) hb3).trans e2); (have hb5 : b < w5.heap.size := Nat.lt_of_lt_of_le hb3 hW5.size); (clear hO5 hg5))
          have hs5 := hW5.size
          by_cases hq : q = 0
          · subst hq
            have HTL := Lib.hid (show (ords (os.take k)).length = k * 2 by rw [ords_length, List.length_take]; omega)
            have HDL := Lib.hid (show (ords (os.drop (k + 1))).length = (os.length - (k + 1)) * 2 by rw [ords_length, List.length_drop])
            have hkz : (k : Int) + 1 ≤ (os.length : Int) := by omega
            have hkc : (k : Int) ≤ (c1 : Int) := by omega
            have hkc1 : (k : Int) + 1 ≤ (c1 : Int) := by omega
            have h0k : (0 : Int) ≤ (k : Int) + 1 := by omega
            have hwk : IntKind.i64.wrap ((k : Int) + 1) = (k : Int) + 1 := by rw [IntKind.wrap_i64]; omega
            have htk : ((k : Int) + 1).toNat = k + 1 := by omega
            have hU : ((w5.alloc (.cells #[] 30)).drew).ownsRow w5.heap.size 30 2 (.slice (some ⟨w5.heap.size, 0, none⟩) 0 0) 0 [] := own_likeV (w := w5.alloc (.cells #[] 30)) (own_empty w5 _ 2 _ (Nat.le_refl _)) rfl
            have hB6 : Below w5.heap.size w5 ((w5.alloc (.cells #[] 30)).drew) := ((Below.refl _ _).alloc (Nat.le_refl _) _).drew
            have HU := Lib.hid hU
            have HS := Lib.hid hB6.size
            have HR1 := Lib.hid (rv_takeV (RV.below hr1 (hW5.trans (hB6.mono hs5))) k)
            have HG7 : Hid (∀ w7 : World, ((w5.alloc (.cells #[] 30)).drew).grownBy w7 (Value.slice (some ⟨w5.heap.size, 0, none⟩) 0 0).ownBlock → Below w5.heap.size w5 w7) := Lib.hid (fun w7 hg => hB6.grown hg hB6.size fun g hg => (World.ownsRow.lt hU g hg).1)
            have HR2 : Hid (∀ w7 : World, ((w5.alloc (.cells #[] 30)).drew).grownBy w7 (Value.slice (some ⟨w5.heap.size, 0, none⟩) 0 0).ownBlock → RV w7 w3.heap.size (if c1 = k + 1 then some ⟨b, off, none⟩ else some ⟨b, off + (k + 1) * 2, none⟩) (ords (os.drop (k + 1)))) := Lib.hid (fun w7 hg => by
              split
              · rename_i hce
                rw [show os.drop (k + 1) = [] from List.drop_of_length_le (by omega)]; exact RV.nil _ _ _
              · exact rv_dropV (RV.below hr1 (hW5.trans ((HG7.out w7 hg).mono hs5))) (k + 1))
            have HS2 : Hid (∀ w7 : World, ((w5.alloc (.cells #[] 30)).drew).grownBy w7 (Value.slice (some ⟨w5.heap.size, 0, none⟩) 0 0).ownBlock → w5.heap.size ≤ w7.heap.size) := Lib.hid (fun w7 hg => (HG7.out w7 hg).size)
            have HCALL : Hid (∀ (w8 : World) (A8 : Option Addr) (c8 : Nat), w8.ownsRow w5.heap.size 30 2 (.slice A8 (k + (os.length - (k + 1))) c8) (k + (os.length - (k + 1))) (ords (os.take k) ++ ords (os.drop (k + 1))) → Calls Tryd.prog 19 #[.slice A8 (k + (os.length - (k + 1))) c8] w8 fun e w' => e = .returned (.bool true) ∧ Below w8.heap.size w8 w') := Lib.hid (fun w8 A8 c8 ho => HTW.out w8 A8 c8 (by
              obtain ⟨A', c', hv, hr, _⟩ := own_form ho
              injection hv with h1 _ _
              subst h1
              exact hr))
            have HHR := Lib.hid hr1
            have HHW := Lib.hid hW5
            clear hU hB6 hr1 hW5
            go_region_law (first | (with_reducible refine app_only ?_; refine step_appV w7 (by kernel_rfl) _ _ _ rfl ord_EIV w5.heap.size v7 k (ords (os.take k)) rfl (own_nilV hO7) _ (os.length - (k + 1)) (c1 - (k + 1)) (ords (os.drop (k + 1))) rfl HDL.out (HR2.out _ hg7) (ords_one _) ?_ ?_ (HS2.out _ hg7) ?_; all_goals (first | (intro v8 w8 hO8 hg8; obtain ⟨A8, c8, rfl, -⟩ := own_form hO8) | ((try simp only [maxLen]) <;> omega))) | (with_reducible refine app_only ?_; refine step_appV ((w5.alloc (.cells #[] 30)).drew) (by kernel_rfl) _ _ _ rfl ord_EIV w5.heap.size (.slice (some ⟨w5.heap.size, 0, none⟩) 0 0) 0 [] rfl HU.out (some ⟨b, off, none⟩) k c1 (ords (os.take k)) rfl HTL.out HR1.out (ords_one _) ?_ ?_ HS.out ?_; all_goals (first | (intro v7 w7 hO7 hg7; skip) | ((try simp only [maxLen]) <;> omega))) | (go_simp; go_at_call 19; refine (HCALL.out _ _ _ hO8).mono ?_; rintro e w9 ⟨rfl, b9⟩; skip))
            all_goals
              have hB7 := HG7.out _ hg7
              have hB8 : Below w5.heap.size w5 w8 := hB7.grown hg8 hB7.size fun g hg => (World.ownsRow.lt (own_nilV hO7) g hg).1
              have hB9 := Lib.hid (hB8.trans (b9.mono hB8.size))
              clear hO7 hO8 hg7 hg8 hB7 hB8 b9 hb5 d5
              go_wp2
              go_roundw
              case rel => exact ⟨k + 1, _, by omega, rfl, by go_num, by rw [HPS.out]; exact own_below OP.out hB9.out, HHW.out.trans (hB9.out.mono hs5)⟩
              case measure => (simp [intOf]) <;> omega
          · have hqf : (q == 0) = false := by rw [beq_eq_false_iff_ne]; exact hq
            go_quiet (fail)
            go_wp2
            go_roundw
            case rel => exact ⟨k + 1, _, by omega, rfl, by go_num, by rw [HPS.out]; exact own_likeV OP.out rfl, below_drewN hW5 _⟩
            case measure => (simp [intOf]) <;> omega
        · obtain rfl : k = os.length := by omega
          have hfull : (os.map plO).take os.length = os.map plO := List.take_of_length_le (by simp)
          rw [hfull] at hO
          obtain ⟨A5, c5, rfl, hr5, -⟩ := own_form hO
          have hx := impl_ticketValid A5 c5 (os.map plO) _ hr5 (by simp; omega)
          rw [HPL.out, List.length_map] at hx
          have HX := Lib.hid hx
          have HML := Lib.hid (show (os.map plO).length = os.length from List.length_map _)
          rw [HML.out]
          clear hO hfull hx hr5
          go_wp2_with fail
          refine HX.out.mono ?_
          rintro e w9 ⟨rfl, b9⟩
          go_wp2
          go_ret
          exact ⟨rfl, below_step bel (below_step hW b9)⟩
  · go_enter Tryd.func4, Tryd.ntmps4
    go_wp2
    go_ret
    exact ⟨rfl, Below.refl _ _⟩
end Go.Proofs.YthbledeghanffaaDoor
