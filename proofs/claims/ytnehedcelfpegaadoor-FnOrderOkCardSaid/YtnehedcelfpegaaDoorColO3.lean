/- FnOrderOk: the law's walk. -/
import Derived.Test.YtnehedcelfpegaaDoorDrawO
import Derived.Test.YtnehedcelfpegaaDoorOrP
import Derived.Deep.RegionHeld3
import Derived.Deep.RegionLaw
import Derived.Lib.MinMax
set_option linter.unusedVariables false
set_option linter.unusedSimpArgs false
namespace Go.Proofs.YtnehedcelfpegaaDoor
open Go.ChangeShapes Go.WideShapes Go.ChangeAt Go.RowKit

theorem order_twice {l : List Int} {m : Nat} (h : 1 ≤ l.length) : orderB (l ++ [at0 l 0]) m = false := by
  cases hb : orderB (l ++ [at0 l 0]) m
  · rfl
  · rw [orderB_iff] at hb
    cases l with
    | nil => simp at h
    | cons x t =>
      have h2 := hb.2.1
      simp [at0] at h2
theorem rv_likeE {w w' : World} {B : Nat} {A : Option Addr} {cs : List Value} (h : RV w B A cs) (hh : w'.heap = w.heap) : RV w' B A cs := h.keep fun p _ => by unfold World.cell?; rw [hh]
theorem own_nilO {w : World} {base n : Nat} {e : TypeId} {size : Nat} {v : Value} {cs : List Value} (h : w.ownsRow base e size v (0 + n) ([] ++ cs)) : w.ownsRow base e size v n cs := by
  rwa [Nat.zero_add, List.nil_append] at h
theorem own_rvE {w : World} {base n c size : Nat} {e : TypeId} {A : Option Addr} {cs : List Value} (h : w.ownsRow base e size (.slice A n c) n cs) : RV w w.heap.size A cs := by
  obtain ⟨A', c', e, hr, -⟩ := own_form h
  injection e with e1 e2 e3
  subst e1
  exact hr
theorem step_appG {P : Program} (w : World) {ops : Array Oper} {o : Oper} {a : Act} {K : Act → World → Prop} {Q : Exit → Act → World → Prop} {E : Prop} (hw : Region.wanted o (yielded ops a.tmps) = true) (s x : Operand) (t : TypeId)
    (ho : o.op = .call { callee := .builtin .append, args := #[s, x], argTypes := #[t, t] }) {e : TypeId} {size bytes : Nat} (hE : EI P t e size bytes) (base : Nat) (v : Value) (n : Nat) (xs : List Value) (hs : a.eval s = v) (hown : w.ownsRow base e size v n xs)
    (A : Option Addr) (m c : Nat) (news : List Value) (hx : a.eval x = .slice A m c) (hl : news.length = m * size) {B : Nat} (hr : RV w B A news) (h1 : ∀ u ∈ news, u.oneCell' = true) (h63 : n + m ≤ maxLen) (hb : (n + m) * bytes ≤ 140737488355328) (hbase : base ≤ w.heap.size)
    (h : ∀ v' w', w'.ownsRow base e size v' (n + m) (xs ++ news) → w.grownBy w' v.ownBlock → K (a.put o.dst v') w') : if Region.wanted o (yielded ops a.tmps) = true then Oper.wp P o a w K Q else E := by
  rw [if_pos hw]
  obtain ⟨v', w', hrun, h2, h3, h4⟩ := run_app (P := P) w t o.type hE base v n xs hown A m c news hl hr h1 h63 hb hbase
  unfold Oper.wp execOp
  simp only [ho, resolve, invoke, builtin, Sem.run_bind, Sem.run_pure, Result.andThen_ok, List.map_toArray, List.map_cons, List.map_nil, hs, hx, hrun]
  exact h v' w' h2 h3
theorem oA1 {w3 w6 : World} (h : Below w3.heap.size w3 w6) : (w6.alloc (.cells #[] 3)).ownsRow w3.heap.size 3 1 (.slice (some ⟨w6.heap.size, 0, none⟩) 0 0) 0 [] := own_empty w6 _ 1 _ h.size
theorem oA2 {w3 w6 : World} {o : Obj} (h : Below w3.heap.size w3 w6) : ((w6.alloc (.cells #[] 3)).alloc o).ownsRow w3.heap.size 3 1 (.slice (some ⟨w6.heap.size, 0, none⟩) 0 0) 0 [] := (oA1 h).alloc _
theorem oA3 {w3 w6 : World} {y : Int} (h : Below w3.heap.size w3 w6) : ((w6.alloc (.cells #[.int .i64 y] 3)).alloc (.cells #[] 3)).ownsRow w3.heap.size 3 1 (.slice (some ⟨w6.heap.size + 1, 0, none⟩) 0 0) 0 [] := own_empty' (w6.alloc (.cells #[.int .i64 y] 3)) _ _ _ (by simp) (Nat.le_succ_of_le h.size)
theorem oS2 {w3 w6 : World} {y : Int} (h : Below w3.heap.size w3 w6) : ((w6.alloc (.cells #[] 3)).alloc (.cells #[.int .i64 y] 3)).ownsRow w3.heap.size 3 1 (.slice (some ⟨w6.heap.size + 1, 0, none⟩) 1 1) 1 [.int .i64 y] := newG2 w6 (.cells #[] 3) 3 [.int .i64 y] 1 rfl h.size
theorem oS3 {w3 w6 : World} {y : Int} (h : Below w3.heap.size w3 w6) : ((w6.alloc (.cells #[.int .i64 y] 3)).alloc (.cells #[] 3)).ownsRow w3.heap.size 3 1 (.slice (some ⟨w6.heap.size, 0, none⟩) 1 1) 1 [.int .i64 y] := (newG w6 3 [.int .i64 y] 1 rfl h.size).alloc _
theorem oB {w3 X w7 : World} {v : Value} {n : Nat} {cs : List Value} (hX : Below w3.heap.size w3 X) (ho : X.ownsRow w3.heap.size 3 1 v n cs) (hg : X.grownBy w7 v.ownBlock) : Below w3.heap.size w3 w7 := below_app hX ho hg
theorem oK2 {w3 w6 w7 : World} {y : Int} (h : Below w3.heap.size w3 w6) (hg : ((w6.alloc (.cells #[] 3)).alloc (.cells #[.int .i64 y] 3)).grownBy w7 (Value.slice (some ⟨w6.heap.size, 0, none⟩) 0 0).ownBlock) : w7.ownsRow w3.heap.size 3 1 (.slice (some ⟨w6.heap.size + 1, 0, none⟩) 1 1) 1 [.int .i64 y] := (oS2 h).kept hg (.inr (by simp [Value.ownBlock]))
theorem oK3 {w3 w6 w7 : World} {y : Int} (h : Below w3.heap.size w3 w6) (hg : ((w6.alloc (.cells #[.int .i64 y] 3)).alloc (.cells #[] 3)).grownBy w7 (Value.slice (some ⟨w6.heap.size + 1, 0, none⟩) 0 0).ownBlock) : w7.ownsRow w3.heap.size 3 1 (.slice (some ⟨w6.heap.size, 0, none⟩) 1 1) 1 [.int .i64 y] := (oS3 h).kept hg (.inr (by simp [Value.ownBlock]))
set_option maxRecDepth 20000 in
set_option maxHeartbeats 8000000 in
theorem walk_fnOrderOk (w : World) (A : Option Addr) (c : Nat) (xs : List Int) (h : RV w w.heap.size A (bts xs)) (hc : xs.length ≤ c) (hm : c ≤ maxLen) (hb : ∀ x ∈ xs, 0 ≤ x ∧ x ≤ 255) :
    Calls Tryd.prog 5 #[.slice A xs.length c] w fun e w' => e = .returned (.bool true) ∧ Below w.heap.size w w' := by
  unfold maxLen at hm
  by_cases hl : xs.length ≤ 1048576
  · have HD := Lib.hid (drawOrderOk_any A c xs w h hc hl hb)
    clear hb h
    have hd8 : decide ((1048576 : Int) < (xs.length : Int)) = false := decide_eq_false (by omega)
    go_enter Tryd.func5, Tryd.ntmps5
    go_wp2_with fail
    refine HD.out.mono ?_
    rintro e w1 ⟨v, ys, m, rfl, o, ⟨hol, hml⟩, bel⟩
    obtain ⟨A2, c2, rfl, hr2, hc2, -⟩ := own_form o
    clear o HD hd8
    go_wp2_with fail
    refine (impl_orderOk A2 c2 ys m _ hr2 (by omega) (by omega)).mono ?_
    rintro e w2 ⟨rfl, b2⟩
    replace hr2 := RV.step hr2 b2
    replace bel := below_step bel b2
    clear b2
    go_wp2_with fail
    refine (spec_orderOk A2 c2 ys m _ _ hr2 (by omega) hc2 (by omega)).mono ?_
    rintro e w3 ⟨rfl, hq⟩
    have b3 : Below w2.heap.size w2 w3 := by obtain ⟨q, rfl⟩ := hq; exact below_n q
    replace hr2 := RV.step hr2 b3
    replace bel := below_step bel b3
    clear b3 hq
    have HREV : Hid (orderB ys.reverse m = orderB ys m) := Lib.hid (order_reverse_iff ..)
    have HRL := Lib.hid (show ys.reverse.length = ys.length from List.length_reverse)
    generalize hbo : orderB ys m = bo at *
    have hbb : (bo == bo) = true := by simp
    go_wp2
    go_loopw [6, 7] (fun v i wr => ∃ (t : Nat) (v0 : Value), t ≤ ys.length ∧ v0 = v ∧ i = .int .i64 ((ys.length : Int) - 1 - (t : Int)) ∧ OI wr w3.heap.size v0 (ys.reverse.take t) ∧ Below w3.heap.size w3 wr) (fun _ i _ => (intOf i + 1).toNat)
    case atStart => exact ⟨0, _, Nat.zero_le _, rfl, by first | rfl | (congr 1; omega), own_empty w3 _ _ _ (Nat.le_refl _), below_al (Below.refl _ _) _⟩
    case round =>
      obtain ⟨t, v, ht, rfl, rfl, hO, hW⟩ := hrel
      by_cases hlt : t < ys.length
      · obtain ⟨j, hj⟩ : ∃ j : Nat, ys.length - 1 - t = j := ⟨_, rfl⟩
        have hjz : (ys.length : Int) - 1 - (t : Int) = (j : Int) := by omega
        have hjl : j < ys.length := by omega
        have HRT := Lib.hid (show ys.reverse.take (t + 1) = ys.reverse.take t ++ [at0 ys j] by rw [rev_take_succ ys t hlt, hj])
        have hlen : (ys.reverse.take t).length = t := by rw [List.length_take, List.length_reverse]; omega
        have HNX := Lib.hid (show ((j : Int) - 1) = (ys.length : Int) - 1 - ((t + 1 : Nat) : Int) by omega)
        rw [hjz]
        obtain ⟨b, off, rfl, hbl, hcc⟩ := IS.at0_ (show IS wr wr.heap.size A2 ys from RV.step hr2 hW) (by omega)
        have e1 := hcc j hjl
        have hO2 : wr.ownsRow w3.heap.size 3 1 v t (ints (ys.reverse.take t)) := by unfold OI at hO; rwa [hlen] at hO
        clear hcc hO hjz hj
        go_wp2_with (at_builtin; refine wpList_app _ rfl _ _ 23 rfl int_EId w3.heap.size v t _ rfl (hO2.alloc _) (some ⟨_, 0, none⟩) 1 1 [.int .i64 (at0 ys j)] rfl rfl (rv_new _ _ _) (one1 _) (le_max (by omega)) (by omega) (below_al hW _).size ?_; intro v5 w5 hO5 hg5 _)
        go_roundw
        case rel => exact ⟨t + 1, _, by omega, rfl, by rw [← HNX.out], by rw [HRT.out]; exact oi_pushD (by rw [hlen]; exact hO5), below_app (below_al hW _) (hO2.alloc _) hg5⟩
        case measure => (simp [intOf]) <;> omega
      · obtain rfl : t = ys.length := by omega
        have hfull : ys.reverse.take ys.length = ys.reverse := List.take_of_length_le (by simp)
        rw [hfull] at hO
        have hr2' := RV.step hr2 hW
        have hneg : (ys.length : Int) - 1 - (ys.length : Int) = -1 := by omega
        rw [hneg]
        obtain ⟨A5, c5, rfl, hr5, -⟩ := own_form hO
        rw [HRL.out]
        have HIB : Hid (∀ W, IS W W.heap.size A5 ys.reverse → Calls Tryd.prog 20 #[.slice A5 ys.length c5, .int .i64 m] W fun e w' => e = .returned (.bool bo) ∧ Below W.heap.size W w') := Lib.hid (by
          intro W hx
          have := impl_orderOk A5 c5 ys.reverse m W hx (by rw [HRL.out]; omega) (by omega)
          rwa [HRL.out, HREV.out] at this)
        clear hO hfull hneg hlt ht
        rcases (show ys = [] ∨ 1 ≤ ys.length by cases ys <;> simp) with rfl | ho1
        · have HIB := show Hid (∀ W, IS W W.heap.size A5 [] → Calls Tryd.prog 20 #[.slice A5 0 c5, .int .i64 m] W fun e w' => e = .returned (.bool bo) ∧ Below W.heap.size W w') from HIB
          have HR5 := Lib.hid (show RV wr.drew wr.drew.heap.size A5 (ints []) from rv_likeE (w := wr) hr5 rfl)
          have HW6 : Hid (∀ w6 : World, Below wr.drew.heap.size wr.drew w6 → Below w3.heap.size w3 w6) := Lib.hid (fun w6 b6 => below_step hW.drew b6)
          go_wp2_with fail
          refine wp_region_any (by kernel_rfl) ?_
          change wpAny _ _ _ _ _ _ _ (World.drew _)
          refine wpAny_take (i := 0) (v := .slice A5 0 c5) rfl (by kernel_rfl) (by kernel_rfl) (by kernel_rfl) (fun _ _ _ h => h) (Or.inl ⟨by rfl, ?_⟩) ?_
          · intro w; go_simp
          try simp only [List.getElem_toArray, List.getElem_cons_zero, List.getElem_cons_succ, Act.put, List.setIfInBounds_toArray, List.set_cons_zero, List.set_cons_succ]
          refine wpAny_take (i := 1) (v := .int .i64 m) rfl (by kernel_rfl) (by kernel_rfl) (by kernel_rfl) (fun _ _ _ h => h) (Or.inl ⟨by rfl, ?_⟩) ?_
          · intro w; go_simp
          try simp only [List.getElem_toArray, List.getElem_cons_zero, List.getElem_cons_succ, Act.put, List.setIfInBounds_toArray, List.set_cons_zero, List.set_cons_succ]
          refine wpAny_take (i := 3) (v := .bool bo) rfl (by kernel_rfl) (by kernel_rfl) (by kernel_rfl) (fun _ _ _ h => h) (Or.inl ⟨by rfl, ?_⟩) ?_
          · intro w; go_simp
          try simp only [List.getElem_toArray, List.getElem_cons_zero, List.getElem_cons_succ, Act.put, List.setIfInBounds_toArray, List.set_cons_zero, List.set_cons_succ]
          refine wpAny_ready (rs := [2]) (by kernel_rfl) (by simp) ?_
          refine AllReady.cons rfl (fun K hK => ?_) AllReady.nil
          (go_simp; go_at_call 20; refine (HIB.out _ HR5.out).mono ?_; rintro e w6 ⟨rfl, b6⟩; have hW6 := HW6.out w6 b6; clear b6)
          go_simp
          refine hK _ _ ?_
          clear hK K
          try simp only [List.getElem_toArray, List.getElem_cons_zero, List.getElem_cons_succ, Act.put, List.setIfInBounds_toArray, List.set_cons_zero, List.set_cons_succ]
          refine wpAny_take (i := 4) (v := .bool true) rfl (by kernel_rfl) (by kernel_rfl) (by kernel_rfl) (fun _ _ _ h => h) (Or.inl ⟨by rfl, ?_⟩) ?_
          · intro w; go_simp
          try simp only [List.getElem_toArray, List.getElem_cons_zero, List.getElem_cons_succ, Act.put, List.setIfInBounds_toArray, List.set_cons_zero, List.set_cons_succ]
          refine wpAny_take (i := 5) (v := .bool true) rfl (by kernel_rfl) (by kernel_rfl) (by kernel_rfl) (fun _ _ _ h => h) (Or.inl ⟨by rfl, ?_⟩) ?_
          · intro w; go_simp
          try simp only [List.getElem_toArray, List.getElem_cons_zero, List.getElem_cons_succ, Act.put, List.setIfInBounds_toArray, List.set_cons_zero, List.set_cons_succ]
          refine wpAny_take (i := 6) (v := .slice A2 0 c2) rfl (by kernel_rfl) (by kernel_rfl) (by kernel_rfl) (fun _ _ _ h => h) (Or.inl ⟨by rfl, ?_⟩) ?_
          · intro w; go_simp
          try simp only [List.getElem_toArray, List.getElem_cons_zero, List.getElem_cons_succ, Act.put, List.setIfInBounds_toArray, List.set_cons_zero, List.set_cons_succ]
          refine wpAny_take (i := 7) (v := .int .i64 0) rfl (by kernel_rfl) (by kernel_rfl) (by kernel_rfl) (fun _ _ _ h => h) (Or.inl ⟨by rfl, ?_⟩) ?_
          · intro w; go_simp
          try simp only [List.getElem_toArray, List.getElem_cons_zero, List.getElem_cons_succ, Act.put, List.setIfInBounds_toArray, List.set_cons_zero, List.set_cons_succ]
          refine wpAny_take (i := 8) (v := .bool true) rfl (by kernel_rfl) (by kernel_rfl) (by kernel_rfl) (fun _ _ _ h => h) (Or.inl ⟨by rfl, ?_⟩) ?_
          · intro w; go_simp
          try simp only [List.getElem_toArray, List.getElem_cons_zero, List.getElem_cons_succ, Act.put, List.setIfInBounds_toArray, List.set_cons_zero, List.set_cons_succ]
          refine wpAny_take (i := 9) (v := .bool true) rfl (by kernel_rfl) (by kernel_rfl) (by kernel_rfl) (fun _ _ _ h => h) (Or.inl ⟨by rfl, ?_⟩) ?_
          · intro w; go_simp
          try simp only [List.getElem_toArray, List.getElem_cons_zero, List.getElem_cons_succ, Act.put, List.setIfInBounds_toArray, List.set_cons_zero, List.set_cons_succ]
          refine wpAny_take (i := 10) (v := undef) rfl (by kernel_rfl) (by kernel_rfl) (by kernel_rfl) (fun _ _ _ h => h) (Or.inr ⟨by rfl, rfl⟩) ?_
          try simp only [List.getElem_toArray, List.getElem_cons_zero, List.getElem_cons_succ, Act.put, List.setIfInBounds_toArray, List.set_cons_zero, List.set_cons_succ]
          refine wpAny_take (i := 11) (v := undef) rfl (by kernel_rfl) (by kernel_rfl) (by kernel_rfl) (fun _ _ _ h => h) (Or.inr ⟨by rfl, rfl⟩) ?_
          try simp only [List.getElem_toArray, List.getElem_cons_zero, List.getElem_cons_succ, Act.put, List.setIfInBounds_toArray, List.set_cons_zero, List.set_cons_succ]
          refine wpAny_take (i := 12) (v := undef) rfl (by kernel_rfl) (by kernel_rfl) (by kernel_rfl) (fun _ _ _ h => h) (Or.inr ⟨by rfl, rfl⟩) ?_
          try simp only [List.getElem_toArray, List.getElem_cons_zero, List.getElem_cons_succ, Act.put, List.setIfInBounds_toArray, List.set_cons_zero, List.set_cons_succ]
          refine wpAny_take (i := 13) (v := undef) rfl (by kernel_rfl) (by kernel_rfl) (by kernel_rfl) (fun _ _ _ h => h) (Or.inr ⟨by rfl, rfl⟩) ?_
          try simp only [List.getElem_toArray, List.getElem_cons_zero, List.getElem_cons_succ, Act.put, List.setIfInBounds_toArray, List.set_cons_zero, List.set_cons_succ]
          refine wpAny_take (i := 14) (v := undef) rfl (by kernel_rfl) (by kernel_rfl) (by kernel_rfl) (fun _ _ _ h => h) (Or.inr ⟨by rfl, rfl⟩) ?_
          try simp only [List.getElem_toArray, List.getElem_cons_zero, List.getElem_cons_succ, Act.put, List.setIfInBounds_toArray, List.set_cons_zero, List.set_cons_succ]
          refine wpAny_take (i := 15) (v := undef) rfl (by kernel_rfl) (by kernel_rfl) (by kernel_rfl) (fun _ _ _ h => h) (Or.inr ⟨by rfl, rfl⟩) ?_
          try simp only [List.getElem_toArray, List.getElem_cons_zero, List.getElem_cons_succ, Act.put, List.setIfInBounds_toArray, List.set_cons_zero, List.set_cons_succ]
          refine wpAny_take (i := 16) (v := undef) rfl (by kernel_rfl) (by kernel_rfl) (by kernel_rfl) (fun _ _ _ h => h) (Or.inr ⟨by rfl, rfl⟩) ?_
          try simp only [List.getElem_toArray, List.getElem_cons_zero, List.getElem_cons_succ, Act.put, List.setIfInBounds_toArray, List.set_cons_zero, List.set_cons_succ]
          refine wpAny_take (i := 17) (v := undef) rfl (by kernel_rfl) (by kernel_rfl) (by kernel_rfl) (fun _ _ _ h => h) (Or.inr ⟨by rfl, rfl⟩) ?_
          try simp only [List.getElem_toArray, List.getElem_cons_zero, List.getElem_cons_succ, Act.put, List.setIfInBounds_toArray, List.set_cons_zero, List.set_cons_succ]
          refine wpAny_take (i := 18) (v := undef) rfl (by kernel_rfl) (by kernel_rfl) (by kernel_rfl) (fun _ _ _ h => h) (Or.inr ⟨by rfl, rfl⟩) ?_
          try simp only [List.getElem_toArray, List.getElem_cons_zero, List.getElem_cons_succ, Act.put, List.setIfInBounds_toArray, List.set_cons_zero, List.set_cons_succ]
          refine wpAny_take (i := 19) (v := undef) rfl (by kernel_rfl) (by kernel_rfl) (by kernel_rfl) (fun _ _ _ h => h) (Or.inr ⟨by rfl, rfl⟩) ?_
          try simp only [List.getElem_toArray, List.getElem_cons_zero, List.getElem_cons_succ, Act.put, List.setIfInBounds_toArray, List.set_cons_zero, List.set_cons_succ]
          refine wpAny_take (i := 20) (v := undef) rfl (by kernel_rfl) (by kernel_rfl) (by kernel_rfl) (fun _ _ _ h => h) (Or.inr ⟨by rfl, rfl⟩) ?_
          try simp only [List.getElem_toArray, List.getElem_cons_zero, List.getElem_cons_succ, Act.put, List.setIfInBounds_toArray, List.set_cons_zero, List.set_cons_succ]
          refine wpAny_take (i := 21) (v := .bool true) rfl (by kernel_rfl) (by kernel_rfl) (by kernel_rfl) (fun _ _ _ h => h) (Or.inl ⟨by rfl, ?_⟩) ?_
          · intro w; go_simp
          try simp only [List.getElem_toArray, List.getElem_cons_zero, List.getElem_cons_succ, Act.put, List.setIfInBounds_toArray, List.set_cons_zero, List.set_cons_succ]
          refine wpAny_take (i := 22) (v := .bool true) rfl (by kernel_rfl) (by kernel_rfl) (by kernel_rfl) (fun _ _ _ h => h) (Or.inl ⟨by rfl, ?_⟩) ?_
          · intro w; go_simp
          try simp only [List.getElem_toArray, List.getElem_cons_zero, List.getElem_cons_succ, Act.put, List.setIfInBounds_toArray, List.set_cons_zero, List.set_cons_succ]
          refine wpAny_take (i := 23) (v := .bool true) rfl (by kernel_rfl) (by kernel_rfl) (by kernel_rfl) (fun _ _ _ h => h) (Or.inl ⟨by rfl, ?_⟩) ?_
          · intro w; go_simp
          try simp only [List.getElem_toArray, List.getElem_cons_zero, List.getElem_cons_succ, Act.put, List.setIfInBounds_toArray, List.set_cons_zero, List.set_cons_succ]
          refine wpAny_ready (rs := [24]) (by kernel_rfl) (by simp) ?_
          refine AllReady.cons rfl (fun K hK => ?_) AllReady.nil
          (go_simp; go_at_call 15; refine (alive_any _).mono ?_; rintro e w99 ⟨rfl, b99⟩; have hWz := below_step hW6 b99; clear b99)
          go_simp
          refine hK _ _ ?_
          clear hK K
          try simp only [List.getElem_toArray, List.getElem_cons_zero, List.getElem_cons_succ, Act.put, List.setIfInBounds_toArray, List.set_cons_zero, List.set_cons_succ]
          refine wpAny_take (i := 25) (v := .bool true) rfl (by kernel_rfl) (by kernel_rfl) (by kernel_rfl) (fun _ _ _ h => h) (Or.inl ⟨by rfl, ?_⟩) ?_
          · intro w; go_simp
          try simp only [List.getElem_toArray, List.getElem_cons_zero, List.getElem_cons_succ, Act.put, List.setIfInBounds_toArray, List.set_cons_zero, List.set_cons_succ]
          refine wpAny_take (i := 26) (v := .bool true) rfl (by kernel_rfl) (by kernel_rfl) (by kernel_rfl) (fun _ _ _ h => h) (Or.inl ⟨by rfl, ?_⟩) ?_
          · intro w; go_simp
          try simp only [List.getElem_toArray, List.getElem_cons_zero, List.getElem_cons_succ, Act.put, List.setIfInBounds_toArray, List.set_cons_zero, List.set_cons_succ]
          refine wpAny_done (by kernel_rfl) ?_ _
          all_goals
            go_wp2
            go_ret
            exact ⟨rfl, below_step bel hWz⟩
        · have hon : ((ys.length : Int) == 0) = false := by rw [beq_eq_false_iff_ne]; omega
          have hon2 : (ys.length == 0) = false := by rw [beq_eq_false_iff_ne]; omega
          have hy0 : (0 : Int) < (ys.length : Int) := by omega
          obtain ⟨b, off, rfl, hb3, hcc⟩ := IS.at0_ (show IS w3 w3.heap.size A2 ys from hr2) (by omega)
          have e3 : w3.cell? ⟨b, off, none⟩ = some (.int .i64 (at0 ys 0)) := hcc 0 (by omega)
          have HYL := Lib.hid (show (ints ys).length = ys.length * 1 by rw [ints_length, Nat.mul_one])
          have HTW : Hid (∀ (W : World) A8 c8, RV W W.heap.size A8 (ints ys ++ [.int .i64 (at0 ys 0)]) → Calls Tryd.prog 20 #[.slice A8 (ys.length + 1) c8, .int .i64 m] W fun e w' => e = .returned (.bool false) ∧ Below W.heap.size W w') := Lib.hid (by
            intro W A8 c8 hx
            have := impl_orderOk A8 c8 (ys ++ [at0 ys 0]) m W (show RV _ _ _ _ by rw [ints_append]; exact hx) (by simp; omega) (by omega)
            rwa [order_twice ho1, List.length_append] at this)
          clear hcc
          have HR5 := Lib.hid (show RV wr.drew wr.drew.heap.size A5 (ints ys.reverse) from rv_likeE (w := wr) hr5 rfl)
          have HW6 : Hid (∀ w6 : World, Below wr.drew.heap.size wr.drew w6 → Below w3.heap.size w3 w6) := Lib.hid (fun w6 b6 => below_step hW.drew b6)
          have HE : Hid (∀ W : World, Below w3.heap.size w3 W → W.cell? ⟨b, off, none⟩ = some (.int .i64 (at0 ys 0))) := Lib.hid (fun W h => (h.cell (p := ⟨b, off, none⟩) hb3).trans e3)
          have HN : Hid (∀ W : World, Below w3.heap.size w3 W → b < W.heap.size) := Lib.hid (fun W h => Nat.lt_of_lt_of_le hb3 h.size)
          have HR : Hid (∀ W : World, Below w3.heap.size w3 W → RV W w3.heap.size (some ⟨b, off, none⟩) (ints ys)) := Lib.hid (fun W h => RV.below hr2 h)
          generalize at0 ys 0 = y at *
          have HK : Hid (∀ W : World, Below w3.heap.size w3 W → W.cell? ⟨b, off, none⟩ = some (.int .i64 y) ∧ Below w3.heap.size w3 W) := Lib.hid (fun W h => ⟨HE.out W h, h⟩)
          have hyn : ys ≠ [] := by rintro rfl; simp at ho1
          have hyN : 0 < ys.length := ho1
          go_wp2_with fail
          go_region_held3 (fun w' => w'.cell? ⟨b, off, none⟩ = some (.int .i64 y) ∧ Below w3.heap.size w3 w')
            (first | exact HK.out _ hWz | exact HK.out _ hW9 | exact HK.out _ hW8 | exact HK.out _ hW7 | exact HK.out _ (below_al hW7 _) | exact HK.out _ hW6 | exact HK.out _ (below_al hW6 _) | exact HK.out _ (below_al (below_al hW6 _) _) | exact HK.out _ hW.drew)
            (first | (with_reducible refine app_only ?_; refine step_appG (w6.alloc (.cells #[] 3)) (by kernel_rfl) _ _ _ rfl int_EId w3.heap.size (.slice (some ⟨w6.heap.size, 0, none⟩) 0 0) 0 [] rfl (oA1 hW6) (some ⟨b, off, none⟩) ys.length c2 (ints ys) rfl HYL.out (HR.out _ (below_al hW6 _)) (ints_one _) ?_ ?_ (below_al hW6 _).size ?_; all_goals (first | (intro v7 w7 hO7 hg7; have hW7 := oB (below_al hW6 _) (oA1 hW6) hg7; have e7 := HE.out w7 hW7; have hn7 := HN.out w7 hW7; have hn71 : b ≠ w7.heap.size := Nat.ne_of_lt hn7; clear hg7) | ((try simp only [maxLen]) <;> omega))) | (with_reducible refine app_only ?_; refine step_appG ((w6.alloc (.cells #[] 3)).alloc (.cells #[.int .i64 y] 3)) (by kernel_rfl) _ _ _ rfl int_EId w3.heap.size (.slice (some ⟨w6.heap.size, 0, none⟩) 0 0) 0 [] rfl (oA2 hW6) (some ⟨b, off, none⟩) ys.length c2 (ints ys) rfl HYL.out (HR.out _ (below_al (below_al hW6 _) _)) (ints_one _) ?_ ?_ (below_al (below_al hW6 _) _).size ?_; all_goals (first | (intro v7 w7 hO7 hg7; have hW7 := oB (below_al (below_al hW6 _) _) (oA2 hW6) hg7; have hS7 := oK2 hW6 hg7; have e7 := HE.out w7 hW7; have hn7 := HN.out w7 hW7; have hn71 : b ≠ w7.heap.size := Nat.ne_of_lt hn7; clear hg7) | ((try simp only [maxLen]) <;> omega))) | (with_reducible refine app_only ?_; refine step_appG ((w6.alloc (.cells #[.int .i64 y] 3)).alloc (.cells #[] 3)) (by kernel_rfl) _ _ _ rfl int_EId w3.heap.size (.slice (some ⟨w6.heap.size + 1, 0, none⟩) 0 0) 0 [] rfl (oA3 hW6) (some ⟨b, off, none⟩) ys.length c2 (ints ys) rfl HYL.out (HR.out _ (below_al (below_al hW6 _) _)) (ints_one _) ?_ ?_ (below_al (below_al hW6 _) _).size ?_; all_goals (first | (intro v7 w7 hO7 hg7; have hW7 := oB (below_al (below_al hW6 _) _) (oA3 hW6) hg7; have hS7 := oK3 hW6 hg7; have e7 := HE.out w7 hW7; have hn7 := HN.out w7 hW7; have hn71 : b ≠ w7.heap.size := Nat.ne_of_lt hn7; clear hg7) | ((try simp only [maxLen]) <;> omega))) | (with_reducible refine app_only ?_; refine step_appG (w7.alloc (.cells #[.int .i64 y] 3)) (by kernel_rfl) _ _ _ rfl int_EId w3.heap.size v7 ys.length (ints ys) rfl ((own_nilO hO7).alloc _) (some ⟨w7.heap.size, 0, none⟩) 1 1 [.int .i64 y] rfl rfl (rv_new w7 _ _) (one1 _) ?_ ?_ (below_al hW7 _).size ?_; all_goals (first | (intro v8 w8 hO8 hg8; have hW8 := oB (below_al hW7 _) ((own_nilO hO7).alloc _) hg8; obtain ⟨A8, c8, rfl, hr8, -⟩ := own_form hO8; clear hO8 hg8) | ((try simp only [maxLen]) <;> omega))) | (with_reducible refine app_only ?_; refine step_appG w7 (by kernel_rfl) _ _ _ rfl int_EId w3.heap.size v7 ys.length (ints ys) rfl (own_nilO hO7) (some ⟨w6.heap.size + 1, 0, none⟩) 1 1 [.int .i64 y] rfl rfl (own_rvE hS7) (one1 _) ?_ ?_ hW7.size ?_; all_goals (first | (intro v8 w8 hO8 hg8; have hW8 := oB hW7 (own_nilO hO7) hg8; obtain ⟨A8, c8, rfl, hr8, -⟩ := own_form hO8; clear hO8 hg8) | ((try simp only [maxLen]) <;> omega))) | (with_reducible refine app_only ?_; refine step_appG w7 (by kernel_rfl) _ _ _ rfl int_EId w3.heap.size v7 ys.length (ints ys) rfl (own_nilO hO7) (some ⟨w6.heap.size, 0, none⟩) 1 1 [.int .i64 y] rfl rfl (own_rvE hS7) (one1 _) ?_ ?_ hW7.size ?_; all_goals (first | (intro v8 w8 hO8 hg8; have hW8 := oB hW7 (own_nilO hO7) hg8; obtain ⟨A8, c8, rfl, hr8, -⟩ := own_form hO8; clear hO8 hg8) | ((try simp only [maxLen]) <;> omega))) | (go_at_call 20; first | (refine (HTW.out _ _ _ hr8).mono ?_; rintro e w9 ⟨rfl, b9⟩; have hW9 := below_step hW8 b9; clear b9) | (refine (HIB.out _ HR5.out).mono ?_; rintro e w6 ⟨rfl, b6⟩; have hW6 := HW6.out w6 b6; have e6 := HE.out w6 hW6; have hn6 := HN.out w6 hW6; have hn61 : b ≠ w6.heap.size := Nat.ne_of_lt hn6; have hn62 : b ≠ w6.heap.size + 1 := Nat.ne_of_lt (Nat.lt_succ_of_lt hn6); clear b6)) | (go_at_call 15; refine (alive_any _).mono ?_; rintro e w99 ⟨rfl, b99⟩; have hWz := below_step hW9 b99; clear b99))
          all_goals
            go_wp2
            go_ret
            exact ⟨rfl, below_step bel hWz⟩
  · go_enter Tryd.func5, Tryd.ntmps5
    go_wp2
    go_ret
    exact ⟨rfl, Below.refl _ _⟩
end Go.Proofs.YtnehedcelfpegaaDoor
