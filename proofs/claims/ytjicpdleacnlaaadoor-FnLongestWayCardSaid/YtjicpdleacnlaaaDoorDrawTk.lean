/- Tasks are drawn. -/
import Derived.Test.YtjicpdleacnlaaaDoorDrawS
import Derived.BigRegion
import Derived.Test.YtjicpdleacnlaaaDoorTask
set_option linter.unusedVariables false
set_option linter.unusedSimpArgs false
namespace Go.Proofs.YtjicpdleacnlaaaDoor
open Go.ChangeShapes Go.WideShapes Go.ChangeAt Go.RowKit

section
variable {w w' : World} {lo : Nat} {vs : List Value} {rows : List RowI}
theorem InnI.chg {g : Nat} (h : InnI w lo vs rows) (c : Chg g (g + 1) w w') (hg : g < lo) : InnI w' lo vs rows :=
  ⟨h.len, fun j hj hj' => by obtain ⟨Aj, cj, e, ho⟩ := h.at_ j hj hj'; exact ⟨Aj, cj, e, own_chg ho c hg⟩, h.apart⟩
theorem InnI.push2 {v : Value} {n : Nat} {cs : List Value} (h : InnI w lo vs rows) (h2 : InnI w' lo vs rows) (ho : w'.ownsRow w.heap.size 3 1 v n cs) (hl : lo ≤ w.heap.size) : InnI w' lo (vs ++ [v]) (rows ++ [(n, cs)]) := by
  obtain ⟨Av, cv, rfl, -⟩ := own_form ho
  refine ⟨by simp [h.len], fun j hj hj' => ?_, fun i j hi hj hij => ?_⟩
  · by_cases hlt : j < rows.length
    · have hlt' : j < vs.length := by rw [h.len]; exact hlt
      obtain ⟨Aj, cj, e, ho'⟩ := h2.at_ j hlt hlt'
      refine ⟨Aj, cj, ?_, ?_⟩
      · rw [List.getElem_append_left hlt', List.getElem_append_left hlt]; exact e
      · rw [List.getElem_append_left hlt]; exact ho'
    · have hje : j = rows.length := by simp at hj; omega
      subst hje
      refine ⟨Av, cv, ?_, ?_⟩
      · rw [List.getElem_append_right (by rw [h.len]; exact Nat.le_refl _), List.getElem_append_right (Nat.le_refl _)]; simp [h.len]
      · rw [List.getElem_append_right (Nat.le_refl _)]; simp; exact own_mono ho hl
  · by_cases hlt : j < vs.length
    · rw [List.getElem_append_left (by omega), List.getElem_append_left hlt]
      exact h.apart i j (by omega) hlt hij
    · have hje : j = vs.length := by simp at hj; omega
      subst hje
      rw [List.getElem_append_left (by omega), List.getElem_append_right (Nat.le_refl _)]
      simp
      intro g hg hg'
      obtain ⟨Ai, ci, e, ho'⟩ := h.at_ i (by rw [← h.len]; omega) (by omega)
      rw [e] at hg
      have h1 := (World.ownsRow.lt ho' g hg).2
      have h3 := (World.ownsRow.lt ho g hg').1
      omega
theorem InnI.grown {lo' n : Nat} {v : Value} {ws : List Value} (h : InnI w lo vs rows) (hv : w.ownsRow lo' 41 2 v n ws) (hg : w.grownBy w' v.ownBlock) : InnI w' lo vs rows := by
  refine ⟨h.len, fun j hj hj' => ?_, h.apart⟩
  obtain ⟨Aj, cj, e, ho⟩ := h.at_ j hj hj'
  refine ⟨Aj, cj, e, ho.kept hg ?_⟩
  cases hb : (Value.slice Aj rows[j].1 cj).ownBlock with
  | none => exact .inl rfl
  | some k =>
    refine .inr fun e2 => ?_
    obtain ⟨c1, h1⟩ := ownI_type ho hb
    obtain ⟨c2, h2⟩ := ownI_type hv e2.symm
    rw [h1] at h2
    injection h2 with h2
    injection h2 with _ h2 _
    exact types_differT h2.symm
end
/-- A slice of tasks owned from block lo on; its cells hold ps. -/
def TKp (w : World) (lo : Nat) (v : Value) (ts : List Tsk) (ps : List (Int × Value)) : Prop := ps.map Prod.fst = ts.map Prod.fst ∧ w.ownsRow lo 41 2 v ts.length (pairs ps) ∧ InnI w lo (ps.map Prod.snd) (rowsT ts)
def TK (w : World) (lo : Nat) (v : Value) (ts : List Tsk) : Prop := ∃ ps, TKp w lo v ts ps
theorem TKp.chg {w w' : World} {lo g : Nat} {v : Value} {ts : List Tsk} {ps : List (Int × Value)} (h : TKp w lo v ts ps) (c : Chg g (g + 1) w w') (hg : g < lo) : TKp w' lo v ts ps :=
  ⟨h.1, own_chg h.2.1 c hg, h.2.2.chg c hg⟩
theorem TKp.below {w w' : World} {lo : Nat} {v : Value} {ts : List Tsk} {ps : List (Int × Value)} (h : TKp w lo v ts ps) (b : Below w.heap.size w w') : TKp w' lo v ts ps :=
  ⟨h.1, own_below h.2.1 b, h.2.2.below b⟩
theorem TKp.form {w : World} {lo : Nat} {v : Value} {ts : List Tsk} {ps : List (Int × Value)} (h : TKp w lo v ts ps) : ∃ A c, v = .slice A ts.length c ∧ ts.length ≤ c ∧ c ≤ maxLen := by
  obtain ⟨A', c', e, hr, hle, hmx, _⟩ := own_form h.2.1
  exact ⟨A', c', e, hle, hmx⟩
theorem TKp.nil (w : World) (lo : Nat) (hl : lo ≤ w.heap.size) : TKp (w.alloc (.cells #[] 41)) lo (.slice (some ⟨w.heap.size, 0, none⟩) 0 0) [] [] :=
  ⟨rfl, own_empty w _ 2 _ hl, InnI.nil _ _⟩
theorem TK.reads {w : World} {lo n c : Nat} {A : Option Addr} {ts : List Tsk} (h : TK w lo (.slice A n c) ts) : ST w w.heap.size A ts := by
  obtain ⟨ps, h1, h2, h5⟩ := h
  have hlen : ps.length = ts.length := by have := congrArg List.length h1; simpa using this
  obtain ⟨A', c', e, hr, _⟩ := own_form h2
  injection e with e1 e2 e3
  subst e1
  intro hp
  obtain ⟨b, off, rfl, hb, hc⟩ := RV.flatAt (enc := encP) encP_len hr (by omega) (by omega)
  refine ⟨b, off, rfl, hb, fun j hj => ?_⟩
  have hj' : j < ps.length := by omega
  have e0 : ps[j].1 = ts[j].1 := by
    have : (ps.map Prod.fst)[j]? = (ts.map Prod.fst)[j]? := by rw [h1]
    simpa [hj, hj'] using this
  have hj2 : j < (rowsT ts).length := by simpa [rowsT] using hj
  obtain ⟨Aj, cj, e, ho⟩ := h5.at_ j hj2 (by simpa using hj')
  have er : (rowsT ts)[j] = (ts[j].2.length, ints ts[j].2) := by simp [rowsT]
  rw [er] at ho e
  have hf := own_form ho
  obtain ⟨A2, c2, e2, hr2, hle, hmx, -⟩ := hf
  injection e2 with e3 _ e4
  subst e3 e4
  have c1 := hc j hj' 0 _ rfl
  have c2 := hc j hj' 1 _ rfl
  refine ⟨by rw [← e0]; simpa using c1, Aj, cj, ?_, hr2, hle, hmx⟩
  have e' : ps[j].2 = .slice Aj ts[j].2.length cj := by simpa using e
  rw [← e', Nat.add_assoc]; exact c2
theorem task_EI : EI Tryd.prog 37 41 2 32 := EI.mk Tryd.underlying37 task_info rfl (by omega)
theorem pairs_app (ps qs : List (Int × Value)) : pairs (ps ++ qs) = pairs ps ++ pairs qs := by simp [pairs, flat]
/-- What an append of one task leaves. -/
theorem TKp.push {w w2 w3 : World} {lo : Nat} {v v3 va : Value} {ts : List Tsk} {ps : List (Int × Value)} {y : Int} {xs : List Int} (h : TKp w lo v ts ps) (h2 : TKp w2 lo v ts ps)
    (hi : w2.ownsRow w.heap.size 3 1 va xs.length (ints xs)) (hl : lo ≤ w.heap.size) {o : Obj}
    (ho : w3.ownsRow lo 41 2 v3 (ts.length + 1) (pairs ps ++ [.int .i64 y, va])) (hg : (w2.alloc o).grownBy w3 v.ownBlock) : TKp w3 lo v3 (ts ++ [(y, xs)]) (ps ++ [(y, va)]) := by
  refine ⟨by simp [h.1], ?_, ?_⟩
  · rw [pairs_app, List.length_append]; exact ho
  · have h3 := h.2.2.push2 h2.2.2 hi hl
    have h4 := (h3.below (below_al (Below.refl _ _) o)).grown (h2.2.1.alloc o) hg
    have e1 : (ps ++ [(y, va)]).map Prod.snd = ps.map Prod.snd ++ [va] := by simp
    have e2 : rowsT (ts ++ [(y, xs)]) = rowsT ts ++ [(xs.length, ints xs)] := by simp [rowsT]
    rw [e1, e2]; exact h4
theorem blk_apartT {w : World} {g n : Nat} {v : Value} {cs : List Value} (h : w.ownsRow (g + 1) 3 1 v n cs) : some g ≠ v.ownBlock := fun e => by
  have := (World.ownsRow.lt h g e.symm).1
  omega
theorem one_isl (y : Int) (A : Option Addr) (n c : Nat) : ∀ u ∈ [Value.int .i64 y, .slice A n c], u.oneCell' = true := by intro u hu; simp at hu; rcases hu with rfl | rfl <;> rfl
def OPs (w : World) (base : Nat) (v : Value) (os : List (Int × Value)) : Prop := w.ownsRow base 41 2 v os.length (pairs os)
theorem op_someD {W : World} {base c : Nat} {A : Option Addr} {os : List (Int × Value)} (h : OPs W base (.slice A os.length c) os) (h1 : 1 ≤ os.length) : ∃ b, A = some ⟨b, 0, none⟩ ∧ os.length ≤ c := by
  obtain ⟨A', c', e, hr, hc, -, ha⟩ := own_form h
  injection e with e1 e2 e3
  subst e1 e3
  obtain ⟨b, off, rfl, -, -⟩ := hr (by rw [pairs_length]; omega)
  obtain ⟨-, h2, -⟩ := ha _ rfl
  subst h2
  exact ⟨b, rfl, hc⟩
theorem op_tailD {W : World} {base c b : Nat} {os : List (Int × Value)} (h : OPs W base (.slice (some ⟨b, 0, none⟩) os.length c) os) (h1 : 1 ≤ os.length) : RV W W.heap.size (some ⟨b, 2, none⟩) (pairs (os.drop 1)) := by
  cases os with
  | nil => simp at h1
  | cons o t =>
    intro hp
    refine ⟨b, 2, rfl, (World.ownsRow.lt h b rfl).2, fun j hj => ?_⟩
    have hj' : j < (pairs t).length := hj
    rw [World.ownsRow.cellAt h (2 + j) (by rw [pairs_length] at hj'; simp; omega)]
    rw [show 2 + j = j + 1 + 1 by omega]
    have e : pairs (o :: t) = .int .i64 o.1 :: o.2 :: pairs t := rfl
    rw [e]; simp
theorem pairs_oneT {w : World} {lo : Nat} {ps : List (Int × Value)} {rows : List RowI} (k : Nat) (h : InnI w lo (ps.map Prod.snd) rows) : ∀ u ∈ pairs (ps.drop k), u.oneCell' = true := by
  intro u hu
  simp only [pairs, flat, List.mem_flatMap] at hu
  obtain ⟨p, hp, hu⟩ := hu
  have hp2 := List.mem_of_mem_drop hp
  simp only [encP, List.mem_cons, List.not_mem_nil, or_false] at hu
  rcases hu with rfl | rfl
  · rfl
  · obtain ⟨j, hj, e⟩ := List.getElem_of_mem hp2
    have hj2 : j < (ps.map Prod.snd).length := by simpa using hj
    obtain ⟨Aj, cj, e2, -⟩ := h.at_ j (by rw [← h.len]; exact hj2) hj2
    have e3 : (ps.map Prod.snd)[j] = p.2 := by simp [e]
    rw [← e3, e2]; rfl
theorem inni_nils (w : World) (lo n : Nat) : InnI w lo ((List.replicate n ((0 : Int), Value.slice none 0 0)).map Prod.snd) (rowsT (List.replicate n (0, []))) := by
  refine ⟨by simp [rowsT], fun j hj hj' => ⟨none, 0, ?_, ?_⟩, fun i j hi hj hij g h1 _ => ?_⟩
  · simp [rowsT]
  · have e : (rowsT (List.replicate n (0, [])))[j] = (0, []) := by simp [rowsT, ints]
    rw [e]
    exact World.ownsRow_nil _ _ _ 1
  · simp [Value.ownBlock] at h1
theorem inni_one {w : World} {lo g : Nat} {x : Int} (h : w.ownsRow lo 3 1 (.slice (some ⟨g, 0, none⟩) 1 1) 1 [.int .i64 x]) : InnI w lo [Value.slice (some ⟨g, 0, none⟩) 1 1] (rowsT [(0, [x])]) := by
  refine ⟨rfl, fun j hj hj' => ?_, fun i j hi hj hij => ?_⟩
  · have hj0 : j = 0 := by simp at hj'; omega
    subst hj0
    exact ⟨some ⟨g, 0, none⟩, 1, rfl, h⟩
  · simp at hi hj; omega
theorem InnI.consNil {w : World} {lo : Nat} {vs : List Value} {rows : List RowI} (h : InnI w lo vs rows) : InnI w lo (.slice none 0 0 :: vs.drop 1) ((0, []) :: rows.drop 1) := by
  refine ⟨by simp [h.len], fun j hj hj' => ?_, fun i j hi hj hij => ?_⟩
  · cases j with
    | zero => exact ⟨none, 0, rfl, World.ownsRow_nil _ _ _ 1⟩
    | succ j =>
      simp only [List.length_cons, List.length_drop] at hj hj'
      obtain ⟨Aj, cj, e, ho⟩ := h.at_ (1 + j) (by omega) (by omega)
      refine ⟨Aj, cj, ?_, ?_⟩
      · simp only [List.getElem_cons_succ, List.getElem_drop]; exact e
      · simp only [List.getElem_cons_succ, List.getElem_drop]; exact ho
  · cases i with
    | zero => intro g h1; simp [Value.ownBlock] at h1
    | succ i =>
      cases j with
      | zero => omega
      | succ j =>
        simp only [List.length_cons, List.length_drop] at hi hj
        simp only [List.getElem_cons_succ, List.getElem_drop]
        exact h.apart (1 + i) (1 + j) (by omega) (by omega) (by omega)
theorem tk_head {w : World} {lo m : Nat} {v : Value} {ts : List Tsk} {os : List (Int × Value)} {y : Int} (h1 : os.map Prod.fst = ts.map Prod.fst) (hl : os.length = ts.length) (ho : w.ownsRow lo 41 2 v (1 + m) ([.int .i64 y, .slice none 0 0] ++ pairs (os.drop 1))) (hi : InnI w lo (os.map Prod.snd) (rowsT ts))
    (hm : m = (os.drop 1).length := by first | rfl | (simp only [List.length_drop, List.length_cons, List.length_nil] <;> omega)) : TK w lo v ((y, []) :: ts.drop 1) := by
  refine ⟨(y, .slice none 0 0) :: os.drop 1, by simp [List.map_drop, h1], ?_, ?_⟩
  · have e : pairs ((y, Value.slice none 0 0) :: os.drop 1) = [.int .i64 y, .slice none 0 0] ++ pairs (os.drop 1) := rfl
    have e2 : ((y, ([] : List Int)) :: ts.drop 1).length = 1 + m := by subst hm; simp [hl]; omega
    rw [e, e2]; exact ho
  · have := hi.consNil
    simpa [rowsT, List.map_drop, ints] using this
/-- Tasks were drawn. -/
def DrawTkP (w : World) (base g M : Nat) (e : Ending) (w' : World) : Prop := ∃ (v : Value) (ts : List Tsk), e = .returned v ∧ TK w' w.heap.size v ts ∧ (ts.length ≤ 8 ∧ ∀ t ∈ ts, t.2.length ≤ 8) ∧ Rd w' base g (M + 1000) ∧ Chg g (g + 1) w w'
set_option maxRecDepth 20000 in
set_option maxHeartbeats 2000000 in
theorem l20Tasks_any (base g M : Nat) (n : Int) (w : World) (h : Rd w base g M) (hM : M ≤ 800000) (hn : 0 ≤ n) (hn2 : n ≤ 1000) :
    Calls Tryd.prog 58 #[.pointer (some ⟨g, 0, none⟩), .int .i64 n] w (DrawTkP w base g M) := by
  have hg := h.lt
  go_enter Tryd.func58, Tryd.ntmps58
  go_wp2_with fail
  refine (pick_any base g M 4 _ (h.below (below_al (Below.refl _ _) _)) (by omega) (by omega) (by omega)).mono ?_
  rintro e w0 ⟨of0, rfl, ⟨hof0, hof7⟩, r0, c0⟩
  have C0 : Chg g (g + 1) w w0 := (Chg.refl g (g + 1) w).and_al _ |>.trans c0
  have O0 : TKp w0 w.heap.size (.slice (some ⟨w.heap.size, 0, none⟩) 0 0) [] [] := (TKp.nil w _ (Nat.le_refl _)).chg c0 hg.2
  clear c0 h
  go_wp2_with fail
  refine (pick_any base g _ 8 _ r0 (by omega) (by omega) (by omega)).mono ?_
  rintro e w1 ⟨k0, rfl, ⟨hk0, hk7⟩, r1, c1⟩
  have C1 := C0.trans c1
  have O1 := O0.chg c1 hg.2
  clear c1 C0 O0 r0
  go_wp2
  go_loopw [5, 7] (fun v i wr => ∃ (k : Nat) (v0 : Value) (ts : List Tsk) (ps : List (Int × Value)), k ≤ 7 ∧ v0 = v ∧ i = .int .i64 (k : Int) ∧ ts.length + k ≤ 7 ∧ (∀ t ∈ ts, t.2.length ≤ 8) ∧ TKp wr w.heap.size v0 ts ps ∧ Rd wr base g (M + 2 + 10 * ts.length) ∧ Chg g (g + 1) w wr) (fun _ i _ => (intOf i).toNat)
  case atStart => exact ⟨k0.toNat, _, [], [], by omega, rfl, by congr 1; omega, by simp; omega, (fun t ht => by cases ht), O1, r1, C1⟩
  case round =>
    clear O1 r1 C1
    obtain ⟨k, v, ts, os, hk, rfl, rfl, hkk, hts, hO, hR, hC⟩ := hrel
    cases k with
    | succ k =>
      have hs := hC.size
      go_wp2_with fail
      refine (pick_any base g _ 12 _ hR (by omega) (by omega) (by omega)).mono ?_
      rintro e w2 ⟨y, rfl, ⟨hy0, hy1⟩, r2, c2⟩
      have hO2 := hO.chg c2 hg.2
      have hC2 := hC.trans c2
      have hs2 := hC2.size
      have HTS := Lib.hid hts
      have hR2 := r2.more (show M + 2 + 10 * ts.length + 1 ≤ M + 3 + 10 * ts.length by omega)
      have hg2 := r2.lt
      clear hO hR hC c2 r2 hts
      obtain ⟨At, ct, rfl, hct, hcm⟩ := hO2.form
      go_wp2
      have hB2 : Blk (w2.alloc (.cells #[.int .i64 y, .slice none 0 0] 41)) w2.heap.size 41 [.int .i64 y, .slice none 0 0] := Blk.new w2 _ _
      have hRA := hR2.below (below_al (Below.refl _ _) (.cells #[.int .i64 y, .slice none 0 0] 41))
      have hCA : Chg g (g + 1) w2 (w2.alloc (.cells #[.int .i64 y, .slice none 0 0] 41)) := (Chg.refl g (g + 1) w2).and_al _
      have hszA : w2.heap.size + 1 ≤ (w2.alloc (.cells #[.int .i64 y, .slice none 0 0] 41)).heap.size := by simp
      go_loopw [9] (fun i wz => ∃ (j : Nat) (va : Value) (xs : List Int), j ≤ ts.length ∧ i = .int .i64 (j : Int) ∧ xs.length ≤ j ∧ Blk wz w2.heap.size 41 [.int .i64 y, va] ∧ OI wz (w2.heap.size + 1) va xs ∧ Rd wz base g (M + 3 + 10 * ts.length + j) ∧ Chg g (g + 1) w2 wz ∧ w2.heap.size + 1 ≤ wz.heap.size) (fun i _ => ts.length - (intOf i).toNat)
      case atStart => exact ⟨0, _, [], Nat.zero_le _, rfl, Nat.le_refl _, hB2, OI.nil _ _, hRA, hCA, hszA⟩
      case round =>
        clear hR2 hB2 hRA hCA hszA
        obtain ⟨j, va, xs, hj, rfl, hxl, hB, hV, hR, hC, hsz⟩ := hrel
        by_cases hlt : j < ts.length
        · go_wp2_with fail
          refine (pick_any base g _ 5 _ hR (by omega) (by omega) (by omega)).mono ?_
          rintro e w3 ⟨z, rfl, ⟨hz0, hz1⟩, r3, c3⟩
          have hV3 : w3.ownsRow (w2.heap.size + 1) 3 1 va xs.length (ints xs) := own_chg hV c3 (by omega)
          have hB3 := blk_chg hB c3 (show w2.heap.size ≠ g by omega)
          have hC3 := hC.trans c3
          have hsz3 : w2.heap.size + 1 ≤ w3.heap.size := Nat.le_trans hsz c3.size
          clear hV hR c3 hB
          by_cases hz : z < of0
          · have hzd : decide (z < 1 + of0 - 1) = true := decide_eq_true (by omega)
            have c31 : w3.cell? ⟨w2.heap.size, 1, none⟩ = some va := hB3.cell 1 (by simp)
            have HB3 := Lib.hid hB3
            clear hB3
            go_wp2_with (at_builtin; (refine wpList_app _ rfl _ _ 23 rfl int_EId (w2.heap.size + 1) va xs.length _ rfl (hV3.alloc _) (some ⟨_, 0, none⟩) 1 1 [.int .i64 j] rfl rfl (rv_new _ _ _) (one1 _) (le_max (by omega)) (by omega) (by simp; omega) ?_); (intro v4 w4 hO4 hg4 _); (obtain ⟨A4, c4, rfl, -⟩ := own_form hO4); (have HB4 := Lib.hid ((HB3.out.alloc _).grown hg4 (blk_apartT hV3))); (have c41 : w4.cell? ⟨w2.heap.size, 1, none⟩ = some va := HB4.out.cell 1 (by simp)); (have f41 : w4.frozen? ⟨w2.heap.size, 1, none⟩ = false := HB4.out.frozen 1))
            have b4 : Below w2.heap.size w3 w4 := below_app' (Nat.le_of_succ_le hsz3) (own_mono (hV3.alloc _) (Nat.le_succ _)) hg4
            go_roundw
            case rel => exact ⟨j + 1, _, xs ++ [(j : Int)], by omega, by go_num, by simp; omega, by have := HB4.out.set_ 1 (.slice A4 (xs.length + 1) c4); simpa using this, ownsRow_setCell_below (oi_pushD hO4) (Nat.lt_succ_self _) _, (r3.belowB (b4.setCell (Nat.le_refl _) _) hg2.2).more (by omega), hC3.and_below (b4.setCell (Nat.le_refl _) _), by simp [World.setCell]; have := hg4.size; simp at this; omega⟩
            case measure => (simp [intOf]) <;> omega
          · have hzd : decide (z < 1 + of0 - 1) = false := decide_eq_false (by omega)
            have HB3 := Lib.hid hB3
            clear hB3
            go_wp2
            go_roundw
            case rel => exact ⟨j + 1, va, xs, by omega, by go_num, by omega, HB3.out, hV3, r3.more (by omega), hC3, hsz3⟩
            case measure => (simp [intOf]) <;> omega
        · obtain rfl : j = ts.length := by omega
          have hO3 := hO2.chg hC hg.2
          have hC3 := hC2.trans hC
          obtain ⟨Ax, cx, rfl, -⟩ := own_form hV
          have hV3 : wr.ownsRow w2.heap.size 3 1 (.slice Ax xs.length cx) xs.length (ints xs) := own_mono hV (Nat.le_succ _)
          have c30 : wr.cell? ⟨w2.heap.size, 0, none⟩ = some (.int .i64 y) := hB.cell 0 (by simp)
          have c31 : wr.cell? ⟨w2.heap.size, 1, none⟩ = some (.slice Ax xs.length cx) := hB.cell 1 (by simp)
          clear hV hB
          go_wp2_with (at_builtin; refine wpList_app _ rfl _ _ 37 rfl task_EI w.heap.size (.slice At ts.length ct) ts.length _ rfl (hO3.2.1.alloc _) (some ⟨_, 0, none⟩) 1 1 [.int .i64 y, .slice Ax xs.length cx] rfl rfl (rv_new _ _ _) (one_isl _ _ _ _) (le_max (by omega)) (by omega) (hC3.and_al _).size ?_; intro v5 w5 hO5 hg5 _)
          have b5 : Below w.heap.size wr w5 := below_app' hC3.size (hO3.2.1.alloc _) hg5
          have hT := hO2.push hO3 hV3 hs2 hO5 hg5
          go_roundw
          case rel =>
            have e : (ts ++ [(y, xs)]).length = ts.length + 1 := by simp
            exact ⟨k, _, ts ++ [(y, xs)], _, by omega, rfl, by go_num, by omega, fun t ht => by
              rcases List.mem_append.1 ht with h1 | h1
              · exact HTS.out t h1
              · rw [List.mem_singleton.1 h1]; show xs.length ≤ 8; omega, hT, (hR.belowB b5 hg.2).more (by omega), hC3.and_below b5⟩
          case measure => simp [intOf]
    | zero =>
      have hs := hC.size
      obtain ⟨A3, c3, rfl, hct, hcm⟩ := hO.form
      have HPL : Hid (os.length = ts.length) := Lib.hid (by have := congrArg List.length hO.1; simpa using this)
      have HP1 := Lib.hid hO.1
      have HTS := Lib.hid hts
      rw [← HPL.out]
      have HO : Hid (OPs wr w.heap.size (.slice A3 os.length c3) os) := Lib.hid (by have := hO.2.1; rw [← HPL.out] at this; exact this)
      have HI := Lib.hid hO.2.2
      have hl7 : os.length ≤ 7 := by have := HPL.out; omega
      have hl8 : ts.length ≤ 7 := by omega
      have HONE := Lib.hid (fun k => pairs_oneT k hO.2.2)
      have hRx := hR.more (show M + 2 + 10 * ts.length ≤ M + 200 by omega)
      clear hO hR hts
      go_wp2_with fail
      refine (odd_any base g (M + 200) n _ hRx (by omega) hn (by omega)).mono ?_
      rintro e w7 ⟨b, rfl, r7, c7⟩
      have HO7 : Hid (OPs w7 w.heap.size (.slice A3 os.length c3) os) := Lib.hid (own_chg HO.out c7 hg.2)
      have HI7 := Lib.hid (HI.out.chg c7 hg.2)
      have hC7 := hC.trans c7
      have hs7 := hC7.size
      clear c7
      cases b
      · have HT : Hid (TK w7 w.heap.size (.slice A3 os.length c3) ts) := Lib.hid ⟨os, HP1.out, by rw [← HPL.out]; exact HO7.out, HI7.out⟩
        go_wp2
        go_ret
        exact ⟨_, ts, rfl, HT.out, ⟨by omega, HTS.out⟩, r7.more (by omega), hC7⟩
      · go_wp2_with fail
        refine (pick_any base g _ 3 _ r7 (by omega) (by omega) (by omega)).mono ?_
        rintro e w8 ⟨y, rfl, ⟨hy0, hy3⟩, r8, c8⟩
        have HO8 : Hid (OPs w8 w.heap.size (.slice A3 os.length c3) os) := Lib.hid (own_chg HO7.out c8 hg.2)
        have HI8 := Lib.hid (HI7.out.chg c8 hg.2)
        have hC8 := hC7.trans c8
        have hs8 := hC8.size
        have hg8 := r8.lt
        clear HO HO7 HI HI7
        rcases (show y = 0 ∨ y = 1 ∨ y = 2 by omega) with rfl | rfl | rfl
        · have hmk : ∀ W : World, (Instr.makeSlice 37 (.int .i64 8) (.int .i64 8)).run Tryd.prog W = .ok (.slice (some ⟨W.heap.size, 0, none⟩) 8 8) (W.alloc (.cells #[.int .i64 0, .slice none 0 0, .int .i64 0, .slice none 0 0, .int .i64 0, .slice none 0 0, .int .i64 0, .slice none 0 0, .int .i64 0, .slice none 0 0, .int .i64 0, .slice none 0 0, .int .i64 0, .slice none 0 0, .int .i64 0, .slice none 0 0] 41)) := fun _ => by kernel_rfl
          have HT : Hid (TK (w8.alloc (.cells #[.int .i64 0, .slice none 0 0, .int .i64 0, .slice none 0 0, .int .i64 0, .slice none 0 0, .int .i64 0, .slice none 0 0, .int .i64 0, .slice none 0 0, .int .i64 0, .slice none 0 0, .int .i64 0, .slice none 0 0, .int .i64 0, .slice none 0 0] 41)) w.heap.size (.slice (some ⟨w8.heap.size, 0, none⟩) 8 8) (List.replicate 8 (0, []))) := Lib.hid ⟨List.replicate 8 (0, .slice none 0 0), by simp, (Blk.new w8 41 #[.int .i64 0, .slice none 0 0, .int .i64 0, .slice none 0 0, .int .i64 0, .slice none 0 0, .int .i64 0, .slice none 0 0, .int .i64 0, .slice none 0 0, .int .i64 0, .slice none 0 0, .int .i64 0, .slice none 0 0, .int .i64 0, .slice none 0 0]).own hs8 rfl (by decide), inni_nils _ _ 8⟩
          go_wp2
          go_ret
          exact ⟨_, _, rfl, HT.out, ⟨by simp, fun t ht => by rw [(List.mem_replicate.1 ht).2]; simp⟩, (r8.below (below_al (Below.refl _ _) _)).more (by omega), hC8.and_al _⟩
        · have HT : Hid (TK ((w8.alloc (.cells #[.int .i64 0] 3)).alloc (.cells #[.int .i64 0, .slice (some ⟨w8.heap.size, 0, none⟩) 1 1] 41)) w.heap.size (.slice (some ⟨w8.heap.size + 1, 0, none⟩) 1 1) [(0, [0])]) := Lib.hid ⟨[(0, .slice (some ⟨w8.heap.size, 0, none⟩) 1 1)], rfl, newG2 w8 (.cells #[.int .i64 0] 3) 41 [.int .i64 0, .slice (some ⟨w8.heap.size, 0, none⟩) 1 1] 2 rfl hs8, inni_one ((newG w8 3 [.int .i64 0] 1 rfl hs8).alloc _)⟩
          go_wp2
          go_ret
          exact ⟨_, _, rfl, HT.out, ⟨by simp, fun t ht => by rw [List.mem_singleton.1 ht]; simp⟩, (r8.below (below_al (below_al (Below.refl _ _) _) _)).more (by omega), (hC8.and_al _).and_al _⟩
        · go_wp2_with fail
          rcases (show os = [] ∨ 1 ≤ os.length by cases os <;> simp) with rfl | ho1
          · have hmin : min (1 : Int) 0 = 0 := rfl
            have hA0 : Option.map (fun x : Addr => x.add 0) A3 = A3 := by cases A3 <;> rfl
            go_region_law (first | (go_simp; go_at_call 59; refine (pick_any base g (M + 202) 2 _ (by first | exact r8.below ((Below.refl _ _).drew) | exact r8.below ((below_al (Below.refl _ _) _).drew)) (by omega) (by omega) (by omega)).mono ?_; rintro e w9 ⟨v9, rfl, ⟨hv0, hv2⟩, r9, c9⟩; obtain ⟨y9, hya, hyb, hyc⟩ := pair_get (W := w9) (-1) 31 v9 hv0 hv2; have hy4 := hyc _ _ (Blk.new w9 3 #[.int .i64 (-1), .int .i64 31]); (try (have hy5 := hyc _ _ (blk_chg (w := (w8.alloc (.cells #[.int .i64 (-1), .int .i64 31] 3)).drew) (Blk.new w8 3 #[.int .i64 (-1), .int .i64 31]) c9 (by omega)))); clear hyc; have hC9 : Chg g (g + 1) w w9 := (by first | exact (hC8.and_below ((Below.refl _ _).drew)).trans c9 | exact (hC8.and_below (((Below.refl _ _).alloc hs8 _).drew)).trans c9); have hs9 := hC9.size; have HO9 := Lib.hid (show OPs w9 w.heap.size (.slice A3 0 c3) ([]) from (by first | exact own_chg (own_likeD (w' := w8.drew) HO8.out rfl) c9 hg.2 | exact own_chg (own_likeD (w := w8.alloc (.cells #[.int .i64 (-1), .int .i64 31] 3)) (w' := (w8.alloc (.cells #[.int .i64 (-1), .int .i64 31] 3)).drew) (HO8.out.alloc _) rfl) c9 hg.2)); have HR9 := Lib.hid (show RV w9 w9.heap.size A3 (pairs (List.drop 1 [])) from (RV.nil _ _ _)); have HB9 := Lib.hid (show w9.heap.size + 1 = w9.heap.size + 1 from rfl); have HI9 := Lib.hid (show InnI w9 w.heap.size (([] : List (Int × Value)).map Prod.snd) (rowsT ts) from (by first | exact InnI.chg (InnI.keep (w' := w8.drew) HI8.out (fun _ _ _ => rfl)) c9 hg.2 | exact InnI.chg (InnI.keep (w := w8.alloc (.cells #[.int .i64 (-1), .int .i64 31] 3)) (w' := (w8.alloc (.cells #[.int .i64 (-1), .int .i64 31] 3)).drew) (HI8.out.below (below_al (Below.refl _ _) _)) (fun _ _ _ => rfl)) c9 hg.2)); clear c9) | (with_reducible refine app_only ?_; refine step_app (w9.alloc (.cells #[.int .i64 y9, .slice none 0 0] 41)) rfl _ _ _ rfl task_EI w.heap.size (.slice (some ⟨w9.heap.size, 0, none⟩) 1 1) 1 [.int .i64 y9, .slice none 0 0] rfl (newG w9 41 [.int .i64 y9, .slice none 0 0] 2 rfl hs9) A3 0 c3 (pairs (List.drop 1 [])) rfl ?_ (HR9.out.below (below_al (Below.refl _ _) _)) (HONE.out _) ?_ ?_ ?_ ?_; all_goals (first | (intro v10 w10 hO10 hg10; have b10 : Below w.heap.size w9 w10 := below_app' hs9 (newG w9 41 [.int .i64 y9, .slice none 0 0] 2 rfl hs9) hg10) | ((try simp only [pairs_length, maxLen, List.length_drop, List.length_nil, List.length_cons, World.size_alloc]) <;> omega))) | (with_reducible refine app_only ?_; refine step_app ((w9.alloc (.cells #[.int .i64 (-1), .int .i64 31] 3)).alloc (.cells #[.int .i64 y9, .slice none 0 0] 41)) rfl _ _ _ rfl task_EI w.heap.size (.slice (some ⟨w9.heap.size + 1, 0, none⟩) 1 1) 1 [.int .i64 y9, .slice none 0 0] rfl (newG2 w9 (.cells #[.int .i64 (-1), .int .i64 31] 3) 41 [.int .i64 y9, .slice none 0 0] 2 rfl hs9) A3 0 c3 (pairs (List.drop 1 [])) rfl ?_ (HR9.out.below (below_al (below_al (Below.refl _ _) _) _)) (HONE.out _) ?_ ?_ ?_ ?_; all_goals (first | (intro v10 w10 hO10 hg10; have b10 : Below w.heap.size w9 w10 := new_belowG2 (o := .cells #[.int .i64 (-1), .int .i64 31] 3) (T := 41) (cs := [.int .i64 y9, .slice none 0 0]) (s := 2) hs9 rfl hg10) | ((try simp only [pairs_length, maxLen, List.length_drop, List.length_nil, List.length_cons, World.size_alloc]) <;> omega))))
            all_goals
              have bz : Below w9.heap.size w9 w10 := by first | exact below_app' (Nat.le_refl _) (newG w9 41 [.int .i64 y9, .slice none 0 0] 2 rfl (Nat.le_refl _)) hg10 | exact new_belowG2 (o := .cells #[.int .i64 (-1), .int .i64 31] 3) (T := 41) (cs := [.int .i64 y9, .slice none 0 0]) (s := 2) (Nat.le_refl _) rfl hg10
              have HT := Lib.hid (tk_head (y := y9) HP1.out HPL.out hO10 (HI9.out.below bz))
              go_wp2
              go_ret
              exact ⟨_, (y9, []) :: ts.drop 1, rfl, HT.out, ⟨by have := HPL.out; simp only [List.length_drop, List.length_cons, List.length_nil] at * <;> omega, fun t ht => (List.mem_cons.1 ht).elim (fun e => by rw [e]; simp) (fun h2 => HTS.out t (List.mem_of_mem_drop h2))⟩, (r9.belowB b10 hg.2).more (by omega), hC9.and_below b10⟩
          · obtain ⟨b3, rfl, hoc⟩ := op_someD HO8.out ho1
            have ho1z : (1 : Int) ≤ (os.length : Int) := by omega
            have hmin : min (1 : Int) (os.length : Int) = 1 := by omega
            by_cases hc1 : c3 = 1
            · subst hc1
              obtain ⟨o, rfl⟩ : ∃ o, os = [o] := List.length_eq_one_iff.1 (by omega)
              go_region_law (first | (go_simp; go_at_call 59; refine (pick_any base g (M + 202) 2 _ (by first | exact r8.below ((Below.refl _ _).drew) | exact r8.below ((below_al (Below.refl _ _) _).drew)) (by omega) (by omega) (by omega)).mono ?_; rintro e w9 ⟨v9, rfl, ⟨hv0, hv2⟩, r9, c9⟩; obtain ⟨y9, hya, hyb, hyc⟩ := pair_get (W := w9) (-1) 31 v9 hv0 hv2; have hy4 := hyc _ _ (Blk.new w9 3 #[.int .i64 (-1), .int .i64 31]); (try (have hy5 := hyc _ _ (blk_chg (w := (w8.alloc (.cells #[.int .i64 (-1), .int .i64 31] 3)).drew) (Blk.new w8 3 #[.int .i64 (-1), .int .i64 31]) c9 (by omega)))); clear hyc; have hC9 : Chg g (g + 1) w w9 := (by first | exact (hC8.and_below ((Below.refl _ _).drew)).trans c9 | exact (hC8.and_below (((Below.refl _ _).alloc hs8 _).drew)).trans c9); have hs9 := hC9.size; have HO9 := Lib.hid (show OPs w9 w.heap.size (.slice (some ⟨b3, 0, none⟩) 1 1) ([o]) from (by first | exact own_chg (own_likeD (w' := w8.drew) HO8.out rfl) c9 hg.2 | exact own_chg (own_likeD (w := w8.alloc (.cells #[.int .i64 (-1), .int .i64 31] 3)) (w' := (w8.alloc (.cells #[.int .i64 (-1), .int .i64 31] 3)).drew) (HO8.out.alloc _) rfl) c9 hg.2)); have HR9 := Lib.hid (show RV w9 w9.heap.size (some ⟨b3, 0, none⟩) (pairs (List.drop 1 [o])) from (RV.nil _ _ _)); have HB9 := Lib.hid (show w9.heap.size + 1 = w9.heap.size + 1 from rfl); have HI9 := Lib.hid (show InnI w9 w.heap.size (([o] : List (Int × Value)).map Prod.snd) (rowsT ts) from (by first | exact InnI.chg (InnI.keep (w' := w8.drew) HI8.out (fun _ _ _ => rfl)) c9 hg.2 | exact InnI.chg (InnI.keep (w := w8.alloc (.cells #[.int .i64 (-1), .int .i64 31] 3)) (w' := (w8.alloc (.cells #[.int .i64 (-1), .int .i64 31] 3)).drew) (HI8.out.below (below_al (Below.refl _ _) _)) (fun _ _ _ => rfl)) c9 hg.2)); clear c9) | (with_reducible refine app_only ?_; refine step_app (w9.alloc (.cells #[.int .i64 y9, .slice none 0 0] 41)) rfl _ _ _ rfl task_EI w.heap.size (.slice (some ⟨w9.heap.size, 0, none⟩) 1 1) 1 [.int .i64 y9, .slice none 0 0] rfl (newG w9 41 [.int .i64 y9, .slice none 0 0] 2 rfl hs9) (some ⟨b3, 0, none⟩) 0 0 (pairs (List.drop 1 [o])) rfl ?_ (HR9.out.below (below_al (Below.refl _ _) _)) (HONE.out _) ?_ ?_ ?_ ?_; all_goals (first | (intro v10 w10 hO10 hg10; have b10 : Below w.heap.size w9 w10 := below_app' hs9 (newG w9 41 [.int .i64 y9, .slice none 0 0] 2 rfl hs9) hg10) | ((try simp only [pairs_length, maxLen, List.length_drop, List.length_nil, List.length_cons, World.size_alloc]) <;> omega))) | (with_reducible refine app_only ?_; refine step_app ((w9.alloc (.cells #[.int .i64 (-1), .int .i64 31] 3)).alloc (.cells #[.int .i64 y9, .slice none 0 0] 41)) rfl _ _ _ rfl task_EI w.heap.size (.slice (some ⟨w9.heap.size + 1, 0, none⟩) 1 1) 1 [.int .i64 y9, .slice none 0 0] rfl (newG2 w9 (.cells #[.int .i64 (-1), .int .i64 31] 3) 41 [.int .i64 y9, .slice none 0 0] 2 rfl hs9) (some ⟨b3, 0, none⟩) 0 0 (pairs (List.drop 1 [o])) rfl ?_ (HR9.out.below (below_al (below_al (Below.refl _ _) _) _)) (HONE.out _) ?_ ?_ ?_ ?_; all_goals (first | (intro v10 w10 hO10 hg10; have b10 : Below w.heap.size w9 w10 := new_belowG2 (o := .cells #[.int .i64 (-1), .int .i64 31] 3) (T := 41) (cs := [.int .i64 y9, .slice none 0 0]) (s := 2) hs9 rfl hg10) | ((try simp only [pairs_length, maxLen, List.length_drop, List.length_nil, List.length_cons, World.size_alloc]) <;> omega))))
              all_goals
                have bz : Below w9.heap.size w9 w10 := by first | exact below_app' (Nat.le_refl _) (newG w9 41 [.int .i64 y9, .slice none 0 0] 2 rfl (Nat.le_refl _)) hg10 | exact new_belowG2 (o := .cells #[.int .i64 (-1), .int .i64 31] 3) (T := 41) (cs := [.int .i64 y9, .slice none 0 0]) (s := 2) (Nat.le_refl _) rfl hg10
                have HT := Lib.hid (tk_head (y := y9) HP1.out HPL.out hO10 (HI9.out.below bz))
                go_wp2
                go_ret
                exact ⟨_, (y9, []) :: ts.drop 1, rfl, HT.out, ⟨by have := HPL.out; simp only [List.length_drop, List.length_cons, List.length_nil] at * <;> omega, fun t ht => (List.mem_cons.1 ht).elim (fun e => by rw [e]; simp) (fun h2 => HTS.out t (List.mem_of_mem_drop h2))⟩, (r9.belowB b10 hg.2).more (by omega), hC9.and_below b10⟩
            · skip
              go_region_law (first | (go_simp; go_at_call 59; refine (pick_any base g (M + 202) 2 _ (by first | exact r8.below ((Below.refl _ _).drew) | exact r8.below ((below_al (Below.refl _ _) _).drew)) (by omega) (by omega) (by omega)).mono ?_; rintro e w9 ⟨v9, rfl, ⟨hv0, hv2⟩, r9, c9⟩; obtain ⟨y9, hya, hyb, hyc⟩ := pair_get (W := w9) (-1) 31 v9 hv0 hv2; have hy4 := hyc _ _ (Blk.new w9 3 #[.int .i64 (-1), .int .i64 31]); (try (have hy5 := hyc _ _ (blk_chg (w := (w8.alloc (.cells #[.int .i64 (-1), .int .i64 31] 3)).drew) (Blk.new w8 3 #[.int .i64 (-1), .int .i64 31]) c9 (by omega)))); clear hyc; have hC9 : Chg g (g + 1) w w9 := (by first | exact (hC8.and_below ((Below.refl _ _).drew)).trans c9 | exact (hC8.and_below (((Below.refl _ _).alloc hs8 _).drew)).trans c9); have hs9 := hC9.size; have HO9 := Lib.hid (show OPs w9 w.heap.size (.slice (some ⟨b3, 0, none⟩) os.length c3) (os) from (by first | exact own_chg (own_likeD (w' := w8.drew) HO8.out rfl) c9 hg.2 | exact own_chg (own_likeD (w := w8.alloc (.cells #[.int .i64 (-1), .int .i64 31] 3)) (w' := (w8.alloc (.cells #[.int .i64 (-1), .int .i64 31] 3)).drew) (HO8.out.alloc _) rfl) c9 hg.2)); have HR9 := Lib.hid (show RV w9 w9.heap.size (some ⟨b3, 2, none⟩) (pairs (List.drop 1 os)) from (op_tailD HO9.out ho1)); have HB9 := Lib.hid (show w9.heap.size + 1 = w9.heap.size + 1 from rfl); have HI9 := Lib.hid (show InnI w9 w.heap.size (os.map Prod.snd) (rowsT ts) from (by first | exact InnI.chg (InnI.keep (w' := w8.drew) HI8.out (fun _ _ _ => rfl)) c9 hg.2 | exact InnI.chg (InnI.keep (w := w8.alloc (.cells #[.int .i64 (-1), .int .i64 31] 3)) (w' := (w8.alloc (.cells #[.int .i64 (-1), .int .i64 31] 3)).drew) (HI8.out.below (below_al (Below.refl _ _) _)) (fun _ _ _ => rfl)) c9 hg.2)); clear c9) | (with_reducible refine app_only ?_; refine step_app (w9.alloc (.cells #[.int .i64 y9, .slice none 0 0] 41)) rfl _ _ _ rfl task_EI w.heap.size (.slice (some ⟨w9.heap.size, 0, none⟩) 1 1) 1 [.int .i64 y9, .slice none 0 0] rfl (newG w9 41 [.int .i64 y9, .slice none 0 0] 2 rfl hs9) (some ⟨b3, 2, none⟩) (os.length - 1) (c3 - 1) (pairs (List.drop 1 os)) rfl ?_ (HR9.out.below (below_al (Below.refl _ _) _)) (HONE.out _) ?_ ?_ ?_ ?_; all_goals (first | (intro v10 w10 hO10 hg10; have b10 : Below w.heap.size w9 w10 := below_app' hs9 (newG w9 41 [.int .i64 y9, .slice none 0 0] 2 rfl hs9) hg10) | ((try simp only [pairs_length, maxLen, List.length_drop, List.length_nil, List.length_cons, World.size_alloc]) <;> omega))) | (with_reducible refine app_only ?_; refine step_app ((w9.alloc (.cells #[.int .i64 (-1), .int .i64 31] 3)).alloc (.cells #[.int .i64 y9, .slice none 0 0] 41)) rfl _ _ _ rfl task_EI w.heap.size (.slice (some ⟨w9.heap.size + 1, 0, none⟩) 1 1) 1 [.int .i64 y9, .slice none 0 0] rfl (newG2 w9 (.cells #[.int .i64 (-1), .int .i64 31] 3) 41 [.int .i64 y9, .slice none 0 0] 2 rfl hs9) (some ⟨b3, 2, none⟩) (os.length - 1) (c3 - 1) (pairs (List.drop 1 os)) rfl ?_ (HR9.out.below (below_al (below_al (Below.refl _ _) _) _)) (HONE.out _) ?_ ?_ ?_ ?_; all_goals (first | (intro v10 w10 hO10 hg10; have b10 : Below w.heap.size w9 w10 := new_belowG2 (o := .cells #[.int .i64 (-1), .int .i64 31] 3) (T := 41) (cs := [.int .i64 y9, .slice none 0 0]) (s := 2) hs9 rfl hg10) | ((try simp only [pairs_length, maxLen, List.length_drop, List.length_nil, List.length_cons, World.size_alloc]) <;> omega))))
              all_goals
                have bz : Below w9.heap.size w9 w10 := by first | exact below_app' (Nat.le_refl _) (newG w9 41 [.int .i64 y9, .slice none 0 0] 2 rfl (Nat.le_refl _)) hg10 | exact new_belowG2 (o := .cells #[.int .i64 (-1), .int .i64 31] 3) (T := 41) (cs := [.int .i64 y9, .slice none 0 0]) (s := 2) (Nat.le_refl _) rfl hg10
                have HT := Lib.hid (tk_head (y := y9) HP1.out HPL.out hO10 (HI9.out.below bz))
                go_wp2
                go_ret
                exact ⟨_, (y9, []) :: ts.drop 1, rfl, HT.out, ⟨by have := HPL.out; simp only [List.length_drop, List.length_cons, List.length_nil] at * <;> omega, fun t ht => (List.mem_cons.1 ht).elim (fun e => by rw [e]; simp) (fun h2 => HTS.out t (List.mem_of_mem_drop h2))⟩, (r9.belowB b10 hg.2).more (by omega), hC9.and_below b10⟩
end Go.Proofs.YtjicpdleacnlaaaDoor
